import Derived.Test.YtpkmlogclnjijaaGreatAm27
set_option linter.unusedVariables false
namespace Go.AM

/-! Code. -/

def iter (f : Env → St → Rs) : Nat → Env → St → Rs
  | 0, _, _ => none
  | n + 1, e, st => match f e st with
    | some (.norm, e', st') => iter f n e' st'
    | r => r

/-- a region's end: what is not asked for any more is forgotten -/
def keepR (keep : List Nat) : Rs → Rs
  | some (.norm, e, st) => some (.norm, e.keep keep, st)
  | r => r

/-- the blocks that these slots point to are given up -/
def free1 (e : Env) (s : Nat) (H : Mem) : Mem :=
  match e.get s with
  | some (.ptr (some (b, []))) => H.del b
  | some (.slice (some s) _) => if s.p = [] then H.del s.b else H
  | some (.map (some r)) => H.del r
  | _ => H
def freeL (e : Env) : List Nat → Mem → Mem
  | [], H => H
  | s :: l, H => freeL e l (free1 e s H)

theorem free1_sub {e : Env} {s : Nat} {H : Mem} {i : Nat} {B : Blk} (h : free1 e s H i = some B) : H i = some B := by
  generalize hH : free1 e s H = H' at h
  unfold free1 at hH
  split at hH
  · subst hH; exact del_sub h
  · split at hH
    · subst hH; exact del_sub h
    · subst hH; exact h
  · subst hH; exact del_sub h
  · subst hH; exact h

theorem freeL_sub {e : Env} : ∀ (l : List Nat) (H : Mem) (i : Nat) (B : Blk), freeL e l H i = some B → H i = some B
  | [], _, _, _, h => h
  | _ :: l, _, i, B, h => free1_sub (freeL_sub l _ i B h)

noncomputable def evC (P : Program) (F : CallT) (n : Nat) : RC → Env → St → Rs
  | .skip, e, st => some (.norm, e, st)
  | .ret, e, st => some (.ret, e, st)
  | .exit id, e, st => some (.exit id, e, st)
  | .reg ops keep, e, st => keepR keep (evRegion P F ops e st)
  | .draw plan keep, e, st => keepR keep (evDraw P F plan e st)
  | .seq a b, e, st => match evC P F n a e st with
    | some (.norm, e', st') => evC P F n b e' st'
    | r => r
  | .cond c a b, e, st => match e.ev c with
    | some (.sc (.bool t)) => if t then evC P F n a e st else evC P F n b e st
    | _ => none
  | .block id c, e, st => match evC P F n c e st with
    | some (.exit id', e', st') => if id' = id then some (.norm, e', st') else some (.exit id', e', st')
    | r => r
  | .loop keep c, e, st => iter (fun e st => evC P F n c (e.keep keep) st) n e st
  | .free l c, e, st => match evC P F n c e st with
    | some (.norm, e', st') => some (.norm, e', ⟨freeL e' l st'.H, st'.nx⟩)
    | r => r

def chkC (P : Program) (N : Nat) : Code → RC → Bool
  | c, .free _ c' => chkC P N c c'
  | .skip, .skip => true
  | .ret, .ret => true
  | .exit i, .exit j => i == j
  | .region _ ops false, .reg l _ => chkIs P N ops (List.range ops.size) l
  | .region _ ops true, .draw l _ => planOk P N ops l
  | .seq a b, .seq a' b' => chkC P N a a' && chkC P N b b'
  | .cond c a b, .cond c' a' b' => chkX c c' && (chkC P N a a' && chkC P N b b')
  | .block i c, .block j c' => i == j && chkC P N c c'
  | .loop c, .loop _ c' => chkC P N c c'
  | _, _ => false

section
variable {P : Program} {F : CallT} (hF : FSound P F)

theorem iter_some {f : Env → St → Rs} {p : St → St → Prop} (htr : ∀ a b c, p a b → p b c → p a c) (hf : ∀ e st x e' st', f e st = some (x, e', st') → p st st') :
    ∀ (n : Nat) (e : Env) (st : St) (x : X) (e' : Env) (st' : St), iter f n e st = some (x, e', st') → p st st' := by
  intro n
  induction n with
  | zero => intro e st x e' st' h; simp [iter] at h
  | succ n ih =>
    intro e st x e' st' h
    simp only [iter] at h
    split at h
    · rename_i e1 st1 h1
      exact htr _ _ _ (hf _ _ _ _ _ h1) (ih _ _ _ _ _ h)
    · exact hf _ _ _ _ _ h

theorem keepR_some {keep : List Nat} {r : Rs} {x : X} {e : Env} {st : St} (h : keepR keep r = some (x, e, st)) : ∃ e0, r = some (x, e0, st) ∧ (e = e0.keep keep ∨ e = e0) := by
  unfold keepR at h
  split at h
  · simp only [Option.some.injEq, Prod.mk.injEq] at h
    obtain ⟨rfl, rfl, rfl⟩ := h
    exact ⟨_, rfl, .inl rfl⟩
  · exact ⟨e, h, .inr rfl⟩

include hF

theorem evC_nx {n : Nat} : ∀ (c : RC) (e : Env) (st : St) (x : X) (e' : Env) (st' : St), evC P F n c e st = some (x, e', st') → st.nx ≤ st'.nx := by
  intro c
  induction c with
  | skip => intro e st x e' st' h; simp only [evC, Option.some.injEq, Prod.mk.injEq] at h; rw [h.2.2]; exact Nat.le_refl _
  | ret => intro e st x e' st' h; simp only [evC, Option.some.injEq, Prod.mk.injEq] at h; rw [h.2.2]; exact Nat.le_refl _
  | exit => intro e st x e' st' h; simp only [evC, Option.some.injEq, Prod.mk.injEq] at h; rw [h.2.2]; exact Nat.le_refl _
  | reg ops keep =>
    intro e st x e' st' h
    simp only [evC] at h
    obtain ⟨e0, h, _⟩ := keepR_some h
    exact evRegion_nx hF _ _ _ _ _ _ h
  | draw ops keep =>
    intro e st x e' st' h
    simp only [evC] at h
    obtain ⟨e0, h, _⟩ := keepR_some h
    obtain ⟨tr, h1, o1, L⟩ := live_trace hF _ _ _ _ _ _ _ _ h
    exact L.nx.1
  | seq a b iha ihb =>
    intro e st x e' st' h
    simp only [evC] at h
    split at h
    · rename_i h1
      exact Nat.le_trans (iha _ _ _ _ _ h1) (ihb _ _ _ _ _ h)
    · exact iha _ _ _ _ _ h
  | cond c a b iha ihb =>
    intro e st x e' st' h
    simp only [evC] at h
    split at h
    · split at h
      · exact iha _ _ _ _ _ h
      · exact ihb _ _ _ _ _ h
    · simp at h
  | block id c ih =>
    intro e st x e' st' h
    simp only [evC] at h
    split at h
    · rename_i h1
      have := ih _ _ _ _ _ h1
      split at h <;> (simp only [Option.some.injEq, Prod.mk.injEq] at h; rw [← h.2.2]; exact this)
    · exact ih _ _ _ _ _ h
  | loop keep c ih =>
    intro e st x e' st' h
    simp only [evC] at h
    exact iter_some (p := fun a b => a.nx ≤ b.nx) (fun _ _ _ => Nat.le_trans) (fun e st x e' st' h => ih _ _ _ _ _ h) n e st x e' st' h
  | free l c ih =>
    intro e st x e' st' h
    simp only [evC] at h
    split at h
    · rename_i h1
      have := ih _ _ _ _ _ h1
      simp only [Option.some.injEq, Prod.mk.injEq] at h
      rw [← h.2.2]; exact this
    · exact ih _ _ _ _ _ h

theorem code_sound {N : Nat} (hm : P.follows .mixedOrders = true) {n : Nat} : ∀ (rc : RC) (c : Code) (m : Mp) (e : Env) (st : St) (a : Act) (w : World) (x : X) (e' : Env) (st' : St) (Q : Exit → Act → World → Prop),
    chkC P N c rc = true → evC P F n rc e st = some (x, e', st') → RelEnv m e a.tmps → a.tmps.size = N → RelH m st.H w → Unm m st.nx st'.nx →
    (∀ ex a' w', Good m st w x e' st' a ex a' w' → Q ex a' w') → c.wp P Q a w := by
  have keepG : ∀ {m : Mp} {st st' : St} {w w' : World} {x : X} {e' e0 : Env} {a a' : Act} {ex : Exit} {keep : List Nat}, (e' = e0.keep keep ∨ e' = e0) → Good m st w x e0 st' a ex a' w' → Good m st w x e' st' a ex a' w' := by
    rintro m st st' w w' x e' e0 a a' ex keep he ⟨m', hp, hx, hr, h1, h2⟩
    refine ⟨m', hp, hx, ?_, h1, h2⟩
    rcases he with rfl | rfl
    · exact RelEnv.keep fun s _ v hv => hr s v hv
    · exact hr
  have compose : ∀ {m m1 : Mp} {st st1 st' : St} {w w1 : World} {a a1 : Act} {x : X} {e' : Env} {Q : Exit → Act → World → Prop}, Post m st w m1 st1 w1 → a1.tmps.size = a.tmps.size → a1.defers = a.defers → (∀ ex a' w', Good m st w x e' st' a ex a' w' → Q ex a' w') →
      ∀ ex a' w', Good m1 st1 w1 x e' st' a1 ex a' w' → Q ex a' w' := by
    rintro m m1 st st1 st' w w1 a a1 x e' Q hp hs hd hQ ex a' w' ⟨m', hp', hx, he, h1, h2⟩
    exact hQ ex a' w' ⟨m', hp.trans hp', hx, he, by rw [h1, hs], by rw [h2, hd]⟩
  have unm : ∀ {m m1 : Mp} {st st1 st' : St} {w w1 : World}, Post m st w m1 st1 w1 → Unm m st.nx st'.nx → Unm m1 st1.nx st'.nx := by
    intro m m1 st st1 st' w w1 hp hu j h1 h2
    rw [hp.out j (.inr h1)]
    exact hu j (by have := hp.nx; omega) h2
  intro rc
  induction rc with
  | skip =>
    intro c m e st a w x e' st' Q hc h hr hN hH hu hQ
    cases c <;> simp [chkC] at hc
    simp only [evC, Option.some.injEq, Prod.mk.injEq] at h
    obtain ⟨rfl, rfl, rfl⟩ := h
    exact wp_skip (hQ _ _ _ ⟨m, Post.refl hH rfl, trivial, hr, rfl, rfl⟩)
  | ret =>
    intro c m e st a w x e' st' Q hc h hr hN hH hu hQ
    cases c <;> simp [chkC] at hc
    simp only [evC, Option.some.injEq, Prod.mk.injEq] at h
    obtain ⟨rfl, rfl, rfl⟩ := h
    exact wp_ret (hQ _ _ _ ⟨m, Post.refl hH rfl, trivial, hr, rfl, rfl⟩)
  | exit id =>
    intro c m e st a w x e' st' Q hc h hr hN hH hu hQ
    cases c <;> simp [chkC] at hc
    simp only [evC, Option.some.injEq, Prod.mk.injEq] at h
    obtain ⟨rfl, rfl, rfl⟩ := h
    exact wp_exit (hQ _ _ _ ⟨m, Post.refl hH rfl, hc.symm, hr, rfl, rfl⟩)
  | reg l keep =>
    intro c m e st a w x e' st' Q hc h hr hN hH hu hQ
    cases c with
    | region id ops draw =>
      cases draw with
      | false =>
        simp only [chkC] at hc
        simp only [evC] at h
        obtain ⟨e0, h, he⟩ := keepR_some h
        exact wp_region (region_sound hF _ _ m e st a w x e0 st' Q hc h hr hN hH hu fun ex a' w' hg => hQ _ _ _ (keepG he hg))
      | true => simp [chkC] at hc
    | _ => simp [chkC] at hc
  | draw l keep =>
    intro c m e st a w x e' st' Q hc h hr hN hH hu hQ
    cases c with
    | region id ops draw =>
      cases draw with
      | false => simp [chkC] at hc
      | true =>
        simp only [chkC] at hc
        simp only [evC] at h
        obtain ⟨e0, h, he⟩ := keepR_some h
        obtain ⟨C⟩ := canon_of hF hc h (fun y h1 h2 => by
          cases hy : st.H y with
          | none => rfl
          | some B =>
            obtain ⟨l, hl, _⟩ := hH.blk y B hy
            rw [hu y h1 h2] at hl; simp at hl)
        exact draw_sound hF C hm (planOk_sound hc).on hr hN hH hu fun ex a' w' hg => hQ _ _ _ (keepG he hg)
    | _ => simp [chkC] at hc
  | free l r ih =>
    intro c m e st a w x e' st' Q hc h hr hN hH hu hQ
    simp only [chkC] at hc
    simp only [evC] at h
    split at h
    · rename_i e1 st1 h1
      simp only [Option.some.injEq, Prod.mk.injEq] at h
      obtain ⟨rfl, rfl, rfl⟩ := h
      refine ih c m e st a w .norm e1 st1 Q hc h1 hr hN hH hu ?_
      rintro ex a' w' ⟨m', hp, hrest⟩
      exact hQ ex a' w' ⟨m', hp.forget fun i B hi => freeL_sub l _ i B hi, hrest⟩
    · exact ih c m e st a w x e' st' Q hc h hr hN hH hu hQ
  | seq r1 r2 ih1 ih2 =>
    intro c m e st a w x e' st' Q hc h hr hN hH hu hQ
    cases c <;> simp only [chkC, Bool.false_eq_true, Bool.and_eq_true] at hc
    rename_i c1 c2
    simp only [evC] at h
    refine wp_seq ?_
    split at h
    · rename_i e1 st1 h1
      have hn2 := evC_nx hF _ _ _ _ _ _ h
      refine ih1 c1 m e st a w .norm e1 st1 _ hc.1 h1 hr hN hH (hu.sub (Nat.le_refl _) hn2) ?_
      rintro ex a' w' ⟨m', hp, hx, hre, hs, hd⟩
      cases ex <;> simp only [RelX] at hx
      show c2.wp P Q a' w'
      exact ih2 c2 m' e1 st1 a' w' x e' st' Q hc.2 h hre (by rw [hs, hN]) hp.rel (unm hp hu) (compose hp hs hd hQ)
    · rename_i hnn
      refine ih1 c1 m e st a w x e' st' _ hc.1 h hr hN hH hu ?_
      intro ex a' w' hg
      have hx : x ≠ .norm := by rintro rfl; exact hnn _ _ h
      have := hQ ex a' w' hg
      obtain ⟨m', _, hx', _⟩ := hg
      cases ex with
      | normal => cases x <;> simp [RelX] at hx' hx
      | _ => exact this
  | cond b' r1 r2 ih1 ih2 =>
    intro c m e st a w x e' st' Q hc h hr hN hH hu hQ
    cases c <;> simp only [chkC, Bool.false_eq_true, Bool.and_eq_true] at hc
    rename_i b c1 c2
    simp only [evC] at h
    split at h
    · rename_i t hb
      have hbv := chkX_rel hr hc.1 hb
      have hev : a.eval b = .bool t := hbv.2
      refine wp_cond hev ?_
      cases t with
      | true =>
        simp only [if_true] at h ⊢
        exact ih1 c1 m e st a w x e' st' Q hc.2.1 h hr hN hH hu hQ
      | false =>
        simp only [Bool.false_eq_true, if_false] at h ⊢
        exact ih2 c2 m e st a w x e' st' Q hc.2.2 h hr hN hH hu hQ
    · simp at h
  | block id' r ih =>
    intro c m e st a w x e' st' Q hc h hr hN hH hu hQ
    cases c <;> simp only [chkC, Bool.false_eq_true, Bool.and_eq_true, beq_iff_eq] at hc
    rename_i id c
    obtain ⟨rfl, hc⟩ := hc
    simp only [evC] at h
    refine wp_block ?_
    split at h
    · rename_i i2 e1 st1 h1
      split at h
      · rename_i hi
        simp only [Option.some.injEq, Prod.mk.injEq] at h
        obtain ⟨rfl, rfl, rfl⟩ := h
        refine ih c m e st a w _ _ _ _ hc h1 hr hN hH hu ?_
        rintro ex a' w' ⟨m', hp, hx, hrest⟩
        cases ex <;> simp only [RelX] at hx
        simp only [Exit.inBlock, ← hx, hi, if_true]
        exact hQ _ _ _ ⟨m', hp, trivial, hrest⟩
      · rename_i hi
        simp only [Option.some.injEq, Prod.mk.injEq] at h
        obtain ⟨rfl, rfl, rfl⟩ := h
        refine ih c m e st a w _ _ _ _ hc h1 hr hN hH hu ?_
        rintro ex a' w' ⟨m', hp, hx, hrest⟩
        cases ex <;> simp only [RelX] at hx
        subst hx
        simp only [Exit.inBlock, hi, if_false]
        exact hQ _ _ _ ⟨m', hp, rfl, hrest⟩
    · rename_i hne
      refine ih c m e st a w x e' st' _ hc h hr hN hH hu ?_
      intro ex a' w' hg
      have := hQ ex a' w' hg
      obtain ⟨m', _, hx', _⟩ := hg
      cases ex with
      | exit i =>
        cases x with
        | exit j => exact absurd h (hne j _ _)
        | _ => simp [RelX] at hx'
      | _ => exact this
  | loop keep r ih =>
    intro c m e st a w x e' st' Q hc h hr hN hH hu hQ
    cases c <;> simp only [chkC, Bool.false_eq_true] at hc
    rename_i c
    simp only [evC] at h
    -- by the number of rounds
    have key : ∀ (k : Nat) (m : Mp) (e : Env) (st : St) (a : Act) (w : World), iter (fun e st => evC P F n r (e.keep keep) st) k e st = some (x, e', st') → RelEnv m e a.tmps → a.tmps.size = N → RelH m st.H w → Unm m st.nx st'.nx →
        (∀ ex a' w', Good m st w x e' st' a ex a' w' → Q ex a' w') →
        ∀ (b : Frame) (ks : List Item) (cs : List Frame), ∃ ex a' w', Q ex a' w' ∧ Arrives P (lone (b.at a (.code c :: .inLoop c :: ks)) cs w) b ks cs ex a' w' := by
      intro k
      induction k with
      | zero => intro m e st a w h; simp [iter] at h
      | succ k ihk =>
        intro m e st a w h hr hN hH hu hQ b ks cs
        simp only [iter] at h
        have hrk : RelEnv m (e.keep keep) a.tmps := RelEnv.keep fun s _ v hv => hr s v hv
        split at h
        · rename_i e1 st1 h1
          have hn2 := iter_some (p := fun a b => a.nx ≤ b.nx) (fun _ _ _ => Nat.le_trans) (fun e st x e' st' h => evC_nx hF _ _ _ _ _ _ h) k _ _ _ _ _ h
          obtain ⟨ex, a1, w1, hg, harr⟩ := ih c m _ st a w .norm e1 st1 (fun ex a' w' => Good m st w .norm e1 st1 a ex a' w') hc h1 hrk hN hH (hu.sub (Nat.le_refl _) hn2) (fun _ _ _ h => h) b (.inLoop c :: ks) cs
          obtain ⟨m', hp, hx, hre, hs, hd⟩ := hg
          cases ex <;> simp only [RelX] at hx
          obtain ⟨e₂, a₂, w₂, hq₂, harr₂⟩ := ihk m' e1 st1 a1 w1 h hre (by rw [hs, hN]) hp.rel (unm hp hu) (compose hp hs hd hQ) b ks cs
          exact ⟨e₂, a₂, w₂, hq₂, .of_steps (Steps.trans harr (.one step_inLoop)) harr₂⟩
        · rename_i hnn
          obtain ⟨ex, a1, w1, hg, harr⟩ := ih c m _ st a w x e' st' (fun ex a' w' => Good m st w x e' st' a ex a' w') hc h hrk hN hH hu (fun _ _ _ h => h) b (.inLoop c :: ks) cs
          have hq := hQ _ _ _ hg
          obtain ⟨m', _, hx, _⟩ := hg
          cases ex with
          | normal => cases x <;> simp only [RelX] at hx; exact absurd h (hnn _ _)
          | _ => exact ⟨_, a1, w1, hq, .pass (x := .inLoop c) rfl (fun _ _ => .inl (by simp)) harr⟩
    intro b ks cs
    obtain ⟨ex, a', w', hq, harr⟩ := key n m e st a w h hr hN hH hu hQ b ks cs
    exact ⟨ex, a', w', hq, .of_steps (.one step_loop) harr⟩

end
end Go.AM
