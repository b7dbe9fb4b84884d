import Derived.Test.YtpkmlogclnjijaaGreatAm24
set_option linter.unusedVariables false
namespace Go.AM

/-! Facts of a canonical run. -/

def cnt (l : Plan) : Nat := (l.filter fun p => p.2.1.isAc).length

theorem cnt_cons {i u : Nat} {r : RI} {l : Plan} : cnt ((i, r, u) :: l) = cnt l + (if r.isAc = true then 1 else 0) := by
  unfold cnt
  rw [List.filter_cons]
  simp only
  split <;> simp

theorem get_put {e : Env} {d : Option Nat} {v : AV} {s : Nat} : (e.put d v).get s = if d = some s then some v else e.get s := by
  cases d with
  | none => simp [Env.put]
  | some d => simp only [Env.put, Env.get, Option.some.injEq]

theorem get_del {e : Env} {d : Option Nat} {v : AV} {s : Nat} (h : (e.del d).get s = some v) : d ≠ some s ∧ e.get s = some v := by
  cases d with
  | none => exact ⟨by simp, h⟩
  | some d =>
    simp only [Env.del] at h
    induction e with
    | nil => simp [Env.get] at h
    | cons p e ih =>
      obtain ⟨s', v'⟩ := p
      rw [List.filter_cons] at h
      simp only [bne_iff_ne, ne_eq, ite_not] at h
      split at h
      · rename_i hd
        obtain ⟨h1, h2⟩ := ih h
        refine ⟨h1, ?_⟩
        simp only [Env.get]
        rw [if_neg]
        · exact h2
        · intro he; exact h1 (by rw [← he, hd])
      · rename_i hd
        simp only [Env.get] at h ⊢
        split at h
        · rename_i hs
          refine ⟨?_, by rw [if_pos hs]; exact h⟩
          simp only [ne_eq, Option.some.injEq]; intro he; exact hd (by rw [hs, he])
        · rename_i hs
          rw [if_neg hs]
          exact ih h

def EnvF (tr : List TE) (e : Env) (p : Nat) (E : Env) : Prop :=
  ∀ s v, E.get s = some v → (∃ q t', q < p ∧ tr[q]? = some t' ∧ t'.r.dst = some s ∧ t'.res.val = some v) ∨ ((∀ q t', q < p → tr[q]? = some t' → t'.r.dst ≠ some s) ∧ e.get s = some v)

theorem EnvF.zero {tr : List TE} {e : Env} : EnvF tr e 0 e := fun s v h => .inr ⟨fun q t' hq => by omega, h⟩

theorem EnvF.cons {tr : List TE} {t : TE} {e E : Env} {p : Nat} {v0 : AV} (hv : t.res.val = some v0) (h : EnvF tr (e.put t.r.dst v0) p E) : EnvF (t :: tr) e (p + 1) E := by
  intro s v hs
  rcases h s v hs with ⟨q, t', hq, ht, hd, hr⟩ | ⟨hno, h0⟩
  · exact .inl ⟨q + 1, t', by omega, by simpa using ht, hd, hr⟩
  · rw [get_put] at h0
    split at h0
    · rename_i hd
      exact .inl ⟨0, t, by omega, rfl, hd, by rw [hv]; exact h0⟩
    · rename_i hd
      refine .inr ⟨fun q t' hq ht => ?_, h0⟩
      cases q with
      | zero => simp only [List.getElem?_cons_zero, Option.some.injEq] at ht; rw [← ht]; exact hd
      | succ q => exact hno q t' (by omega) (by simpa using ht)

theorem EnvF.del {tr : List TE} {t : TE} {e E : Env} {p : Nat} (h : EnvF tr (e.del t.r.dst) p E) : EnvF (t :: tr) e (p + 1) E := by
  intro s v hs
  rcases h s v hs with ⟨q, t', hq, ht, hd, hr⟩ | ⟨hno, h0⟩
  · exact .inl ⟨q + 1, t', by omega, by simpa using ht, hd, hr⟩
  · obtain ⟨h1, h2⟩ := get_del h0
    refine .inr ⟨fun q t' hq ht => ?_, h2⟩
    cases q with
    | zero => simp only [List.getElem?_cons_zero, Option.some.injEq] at ht; rw [← ht]; exact h1
    | succ q => exact hno q t' (by omega) (by simpa using ht)

section
variable {P : Program} {F : CallT}

theorem DV.shape {h : Mem} {old : List Mem} {dm : Nat} {plan : Plan} {e : Env} {st sF : St} {tr : List TE} (d : DV P F h old dm plan e st tr sF) : tr.map (fun t => (t.i, t.r, t.u)) = plan := by
  induction d with
  | nil => rfl
  | desc _ _ ih => simp [ih]
  | step _ _ _ ih => simp [ih]

theorem LV.shape {plan : Plan} {e e1 : Env} {st s1 : St} {h h1 : Mem} {old o1 : List Mem} {tr : List TE} {x : X} (d : LV P F plan e st h old tr x e1 s1 h1 o1) : tr.map (fun t => (t.i, t.r, t.u)) = plan := by
  induction d with
  | nil => rfl
  | step _ _ ih => simp [ih]
  | pan _ _ _ _ _ _ d => simp [d.shape]

theorem DV.count {h : Mem} {old : List Mem} {dm : Nat} {plan : Plan} {e : Env} {st sF : St} {tr : List TE} (d : DV P F h old dm plan e st tr sF) : ∀ p t, tr[p]? = some t → t.dm = dm + cnt (plan.take p) := by
  induction d with
  | nil => intro p t hp; simp at hp
  | @desc dm e st sF tr i r u rest hd _ ih =>
    intro p t hp
    cases p with
    | zero => simp only [List.getElem?_cons_zero, Option.some.injEq] at hp; subst hp; simp [cnt]
    | succ p =>
      have := ih p t (by simpa using hp)
      rw [List.take_succ_cons, cnt_cons, this]
      split <;> omega
  | @step dm e st st' sF tr i r u rest v res hac _ _ ih =>
    intro p t hp
    cases p with
    | zero => simp only [List.getElem?_cons_zero, Option.some.injEq] at hp; subst hp; simp [cnt]
    | succ p =>
      have := ih p t (by simpa using hp)
      rw [List.take_succ_cons, cnt_cons, this, hac]
      simp

theorem DV.kind {h : Mem} {old : List Mem} {dm : Nat} {plan : Plan} {e : Env} {st sF : St} {tr : List TE} (d : DV P F h old dm plan e st tr sF) :
    ∀ t ∈ tr, dm ≤ t.dm ∧ t.h = h ∧ t.old = old ∧ t.ok P F ∧ (t.res = .desc ∨ (∃ v st', Stp P F t v st' t.h t.old ∧ t.r.isAc = false)) := by
  induction d with
  | nil => intro t ht; simp at ht
  | @desc dm e st sF tr i r u rest hd _ ih =>
    intro t ht
    rcases List.mem_cons.1 ht with rfl | ht
    · exact ⟨Nat.le_refl _, rfl, rfl, hd, .inl rfl⟩
    · obtain ⟨h1, h2⟩ := ih t ht
      refine ⟨?_, h2⟩
      split at h1 <;> omega
  | @step dm e st st' sF tr i r u rest v res hac hs _ ih =>
    intro t ht
    rcases List.mem_cons.1 ht with rfl | ht
    · exact ⟨Nat.le_refl _, rfl, rfl, hs.ok, .inr ⟨v, st', hs, hac⟩⟩
    · exact ih t ht

theorem DV.env {h : Mem} {old : List Mem} {dm : Nat} {plan : Plan} {e : Env} {st sF : St} {tr : List TE} (d : DV P F h old dm plan e st tr sF) : ∀ p t, tr[p]? = some t → EnvF tr e p t.e := by
  induction d with
  | nil => intro p t hp; simp at hp
  | desc hd _ ih =>
    intro p t hp
    cases p with
    | zero => simp only [List.getElem?_cons_zero, Option.some.injEq] at hp; subst hp; exact EnvF.zero
    | succ p => exact EnvF.del (ih p t (by simpa using hp))
  | step hac hs _ ih =>
    intro p t hp
    cases p with
    | zero => simp only [List.getElem?_cons_zero, Option.some.injEq] at hp; subst hp; exact EnvF.zero
    | succ p => exact EnvF.cons hs.val (ih p t (by simpa using hp))

theorem DV.nx {h : Mem} {old : List Mem} {dm : Nat} {plan : Plan} {e : Env} {st sF : St} {tr : List TE} (d : DV P F h old dm plan e st tr sF) :
    st.nx ≤ sF.nx ∧ (∀ t ∈ tr, st.nx ≤ t.s.nx ∧ t.s.nx ≤ t.top ∧ t.top ≤ sF.nx) ∧ tr.Pairwise (fun a b => a.top ≤ b.s.nx) := by
  induction d with
  | nil => exact ⟨Nat.le_refl _, by simp, .nil⟩
  | @desc dm e st sF tr i r u rest hd _ ih =>
    obtain ⟨h1, h2, h3⟩ := ih
    refine ⟨h1, fun t ht => ?_, .cons (fun b hb => (h2 b hb).1) h3⟩
    rcases List.mem_cons.1 ht with rfl | ht
    · exact ⟨Nat.le_refl _, Nat.le_refl _, h1⟩
    · exact h2 t ht
  | @step dm e st st' sF tr i r u rest v res hac hs _ ih =>
    obtain ⟨h1, h2, h3⟩ := ih
    have hl := hs.le
    have ht := hs.top
    simp only at hl
    refine ⟨by omega, fun t ht' => ?_, .cons (fun b hb => by rw [ht]; exact (h2 b hb).1) h3⟩
    rcases List.mem_cons.1 ht' with rfl | ht'
    · exact ⟨Nat.le_refl _, hl, by omega⟩
    · have := h2 t ht'; omega

theorem LV.env {plan : Plan} {e e1 : Env} {st s1 : St} {h h1 : Mem} {old o1 : List Mem} {tr : List TE} {x : X} (d : LV P F plan e st h old tr x e1 s1 h1 o1) :
    (∀ p t, tr[p]? = some t → EnvF tr e p t.e) ∧ (x = .norm → EnvF tr e tr.length e1) := by
  induction d with
  | nil => exact ⟨fun p t hp => by simp at hp, fun _ => EnvF.zero⟩
  | step hs _ ih =>
    refine ⟨fun p t hp => ?_, fun hx => EnvF.cons hs.val (ih.2 hx)⟩
    cases p with
    | zero => simp only [List.getElem?_cons_zero, Option.some.injEq] at hp; subst hp; exact EnvF.zero
    | succ p => exact EnvF.cons hs.val (ih.1 p t (by simpa using hp))
  | pan _ _ _ _ _ _ d =>
    refine ⟨fun p t hp => ?_, fun hx => by simp at hx⟩
    cases p with
    | zero => simp only [List.getElem?_cons_zero, Option.some.injEq] at hp; subst hp; exact EnvF.zero
    | succ p => exact EnvF.del (d.env p t (by simpa using hp))

theorem LV.nx {plan : Plan} {e e1 : Env} {st s1 : St} {h h1 : Mem} {old o1 : List Mem} {tr : List TE} {x : X} (d : LV P F plan e st h old tr x e1 s1 h1 o1) :
    st.nx ≤ s1.nx ∧ (∀ t ∈ tr, st.nx ≤ t.s.nx ∧ t.s.nx ≤ t.top ∧ t.top ≤ s1.nx) ∧ tr.Pairwise (fun a b => a.top ≤ b.s.nx) := by
  induction d with
  | nil => exact ⟨Nat.le_refl _, by simp, .nil⟩
  | step hs _ ih =>
    obtain ⟨h1, h2, h3⟩ := ih
    have hl := hs.le
    have ht := hs.top
    simp only at hl
    refine ⟨by omega, fun t ht' => ?_, .cons (fun b hb => by rw [ht]; exact (h2 b hb).1) h3⟩
    rcases List.mem_cons.1 ht' with rfl | ht'
    · exact ⟨Nat.le_refl _, hl, by omega⟩
    · have := h2 t ht'; omega
  | pan _ hn _ _ _ _ d =>
    obtain ⟨h1, h2, h3⟩ := d.nx
    refine ⟨by simp only; omega, fun t ht' => ?_, .cons (fun b hb => by simp only [TE.top]; exact (h2 b hb).1) h3⟩
    rcases List.mem_cons.1 ht' with rfl | ht'
    · exact ⟨Nat.le_refl _, hn, h1⟩
    · have := h2 t ht'; simp only; omega

/-- memories -/
theorem LV.mems {plan : Plan} {e e1 : Env} {st s1 : St} {h h1 : Mem} {old o1 : List Mem} {tr : List TE} {x : X} (d : LV P F plan e st h old tr x e1 s1 h1 o1) : (h :: old) <:+ (h1 :: o1) := by
  induction d with
  | nil => exact List.suffix_refl _
  | step hs _ ih =>
    rcases hs.mem with ⟨_, rfl, rfl, _⟩ | ⟨_, _, rfl, rfl, _⟩
    · exact (List.suffix_cons _ _).trans ih
    · exact ih
  | pan => exact List.suffix_refl _

inductive Kd (P : Program) (F : CallT) (t : TE) (x : X) (e1 : Env) (s1 : St) (h1 : Mem) (o1 : List Mem) : Prop
  | live {v : AV} {st' : St} {h' : Mem} {old' : List Mem} : Stp P F t v st' h' old' → t.dm = 0 → (h' :: old') <:+ (h1 :: o1) → Kd P F t x e1 s1 h1 o1
  | pan {v : AV} {st' : St} : t.res = .pan v st' → t.r.isAc = true → t.dm = 0 → t.h = h1 → t.old = o1 → x = .pan v → e1 = [] → st'.H = s1.H → Kd P F t x e1 s1 h1 o1
  | deadS {v : AV} {st' : St} : Stp P F t v st' t.h t.old → t.r.isAc = false → 0 < t.dm → t.h = h1 → t.old = o1 → x ≠ .norm → Kd P F t x e1 s1 h1 o1
  | deadD : t.res = .desc → 0 < t.dm → t.h = h1 → t.old = o1 → x ≠ .norm → Kd P F t x e1 s1 h1 o1

theorem LV.kind {plan : Plan} {e e1 : Env} {st s1 : St} {h h1 : Mem} {old o1 : List Mem} {tr : List TE} {x : X} (d : LV P F plan e st h old tr x e1 s1 h1 o1) :
    (∀ t ∈ tr, t.ok P F ∧ Kd P F t x e1 s1 h1 o1) ∧ (x ≠ .norm → ∃ t ∈ tr, ∃ v st', t.res = .pan v st') := by
  induction d with
  | nil => exact ⟨by simp, fun h => absurd rfl h⟩
  | step hs d ih =>
    refine ⟨fun t ht => ?_, fun hx => ?_⟩
    · rcases List.mem_cons.1 ht with rfl | ht
      · exact ⟨hs.ok, .live hs rfl d.mems⟩
      · exact ih.1 t ht
    · obtain ⟨t, ht, hp⟩ := ih.2 hx
      exact ⟨t, List.mem_cons_of_mem _ ht, hp⟩
  | pan hac _ _ hw hq hv d =>
    refine ⟨fun t ht => ?_, fun hx => ⟨_, List.mem_cons_self, _, _, rfl⟩⟩
    rcases List.mem_cons.1 ht with rfl | ht
    · exact ⟨⟨hw, _, hq, hv⟩, .pan rfl hac rfl rfl rfl rfl rfl rfl⟩
    · obtain ⟨h1, h2, h3, h4, h5⟩ := d.kind t ht
      refine ⟨h4, ?_⟩
      rcases h5 with h5 | ⟨v, st', hs, hac⟩
      · exact .deadD h5 (by omega) h2 h3 (by simp)
      · exact .deadS hs hac (by omega) h2 h3 (by simp)

theorem LV.count {plan : Plan} {e e1 : Env} {st s1 : St} {h h1 : Mem} {old o1 : List Mem} {tr : List TE} {x : X} (d : LV P F plan e st h old tr x e1 s1 h1 o1) :
    (∀ p t, tr[p]? = some t → t.k = old.length + cnt (plan.take p)) ∧ (x = .norm → o1.length = old.length + cnt plan) := by
  induction d with
  | nil => exact ⟨fun p t hp => by simp at hp, fun _ => by simp [cnt]⟩
  | @step e e1 st st' s1 h h' h1 old old' o1 tr x i r u rest v res hs _ ih =>
    have hold : old'.length = old.length + (if r.isAc = true then 1 else 0) := by
      rcases hs.mem with ⟨hac, _, rfl, _⟩ | ⟨hac, _, _, rfl, _⟩
      · simp only at hac; simp [hac]
      · simp only at hac; simp [hac]
    refine ⟨fun p t hp => ?_, fun hx => ?_⟩
    · cases p with
      | zero => simp only [List.getElem?_cons_zero, Option.some.injEq] at hp; subst hp; simp [cnt, TE.k]
      | succ p =>
        have := ih.1 p t (by simpa using hp)
        rw [List.take_succ_cons, cnt_cons, this, hold]
        omega
    · rw [ih.2 hx, cnt_cons, hold]; omega
  | @pan e st sF st' h old tr i r u rest q v hac _ _ _ _ _ d =>
    refine ⟨fun p t hp => ?_, fun hx => by simp at hx⟩
    cases p with
    | zero => simp only [List.getElem?_cons_zero, Option.some.injEq] at hp; subst hp; simp [cnt, TE.k]
    | succ p =>
      have hp' : tr[p]? = some t := by simpa using hp
      have h1 := d.count p t hp'
      have h2 := (d.kind t (List.mem_of_getElem? hp')).2.2.1
      rw [List.take_succ_cons, cnt_cons, hac, TE.k, h1, h2]
      simp only [if_true]; omega

/-- what a memory ahead of an actor is made of -/
theorem LV.sub {plan : Plan} {e e1 : Env} {st s1 : St} {h h1 : Mem} {old o1 : List Mem} {tr : List TE} {x : X} (d : LV P F plan e st h old tr x e1 s1 h1 o1) :
    ∀ Pend : Nat → Blk → Prop, (∀ y B, st.H y = some B → h y = some B ∨ Pend y B) →
    (∀ (p : Nat) (t : TE), tr[p]? = some t → t.dm = 0 → ∀ y B, t.s.H y = some B → t.h y = some B ∨ (t.old.length = old.length ∧ Pend y B) ∨ ∃ (q : Nat) (t' : TE) (v : AV), q < p ∧ tr[q]? = some t' ∧ t'.old.length = t.old.length ∧ t'.dm = 0 ∧ t'.s.nx = y ∧ t'.res = .al v B) ∧
    (x = .norm → ∀ y B, s1.H y = some B → h1 y = some B ∨ (o1.length = old.length ∧ Pend y B) ∨ ∃ (q : Nat) (t' : TE) (v : AV), tr[q]? = some t' ∧ t'.old.length = o1.length ∧ t'.dm = 0 ∧ t'.s.nx = y ∧ t'.res = .al v B) := by
  induction d with
  | nil =>
    intro Pend hp
    refine ⟨fun p t hp => by simp at hp, fun _ y B hy => ?_⟩
    rcases hp y B hy with h | h
    · exact .inl h
    · exact .inr (.inl ⟨rfl, h⟩)
  | @step e e1 st st' s1 h h' h1 old old' o1 tr x i r u rest v res hs _ ih =>
    intro Pend hpend
    have first : ∀ y B, st.H y = some B → h y = some B ∨ (old.length = old.length ∧ Pend y B) ∨ ∃ (q : Nat) (t' : TE) (v : AV), q < 0 ∧ (({ i := i, r := r, u := u, dm := 0, e := e, s := st, h := h, old := old, res := res } : TE) :: tr)[q]? = some t' ∧ t'.old.length = old.length ∧ t'.dm = 0 ∧ t'.s.nx = y ∧ t'.res = .al v B := by
      intro y B hy
      rcases hpend y B hy with h | h
      · exact .inl h
      · exact .inr (.inl ⟨rfl, h⟩)
    rcases hs.mem with ⟨hac, hh, rfl, _⟩ | ⟨hac, _, hh, hold, hm⟩
    · simp only at hac hh
      subst hh
      obtain ⟨ih1, ih2⟩ := ih (fun _ _ => False) (fun y B hy => .inl hy)
      refine ⟨fun p t hp hdm y B hy => ?_, fun hx y B hy => ?_⟩
      · cases p with
        | zero => simp only [List.getElem?_cons_zero, Option.some.injEq] at hp; subst hp; exact first y B hy
        | succ p =>
          rcases ih1 p t (by simpa using hp) hdm y B hy with h | h | ⟨q, t', v, hq, ht, h⟩
          · exact .inl h
          · exact h.2.elim
          · exact .inr (.inr ⟨q + 1, t', v, by omega, by simpa using ht, h⟩)
      · rcases ih2 hx y B hy with h | h | ⟨q, t', v, ht, h⟩
        · exact .inl h
        · exact h.2.elim
        · exact .inr (.inr ⟨q + 1, t', v, by simpa using ht, h⟩)
    · simp only at hac hh hold hm
      subst hh hold
      rcases hm with ⟨rfl, _⟩ | ⟨b, hres, hH⟩
      · obtain ⟨ih1, ih2⟩ := ih Pend hpend
        refine ⟨fun p t hp hdm y B hy => ?_, fun hx y B hy => ?_⟩
        · cases p with
          | zero => simp only [List.getElem?_cons_zero, Option.some.injEq] at hp; subst hp; exact first y B hy
          | succ p =>
            rcases ih1 p t (by simpa using hp) hdm y B hy with h | h | ⟨q, t', v, hq, ht, h⟩
            · exact .inl h
            · exact .inr (.inl h)
            · exact .inr (.inr ⟨q + 1, t', v, by omega, by simpa using ht, h⟩)
        · rcases ih2 hx y B hy with h | h | ⟨q, t', v, ht, h⟩
          · exact .inl h
          · exact .inr (.inl h)
          · exact .inr (.inr ⟨q + 1, t', v, by simpa using ht, h⟩)
      · obtain ⟨ih1, ih2⟩ := ih (fun y B => Pend y B ∨ (y = st.nx ∧ B = b)) (fun y B hy => by
          rw [hH] at hy
          simp only [Mem.upd] at hy
          split at hy
          · simp only [Option.some.injEq] at hy
            exact .inr (.inr ⟨by assumption, hy.symm⟩)
          · rcases hpend y B hy with h | h
            · exact .inl h
            · exact .inr (.inl h))
        refine ⟨fun p t hp hdm y B hy => ?_, fun hx y B hy => ?_⟩
        · cases p with
          | zero => simp only [List.getElem?_cons_zero, Option.some.injEq] at hp; subst hp; exact first y B hy
          | succ p =>
            rcases ih1 p t (by simpa using hp) hdm y B hy with h | ⟨hl, h | ⟨rfl, rfl⟩⟩ | ⟨q, t', v, hq, ht, h⟩
            · exact .inl h
            · exact .inr (.inl ⟨hl, h⟩)
            · exact .inr (.inr ⟨0, _, v, by omega, rfl, hl.symm, rfl, rfl, hres⟩)
            · exact .inr (.inr ⟨q + 1, t', v, by omega, by simpa using ht, h⟩)
        · rcases ih2 hx y B hy with h | ⟨hl, h | ⟨rfl, rfl⟩⟩ | ⟨q, t', v, ht, h⟩
          · exact .inl h
          · exact .inr (.inl ⟨hl, h⟩)
          · exact .inr (.inr ⟨0, _, v, rfl, hl.symm, rfl, rfl, hres⟩)
          · exact .inr (.inr ⟨q + 1, t', v, by simpa using ht, h⟩)
  | @pan e st sF st' h old tr i r u rest q v hac _ _ _ _ _ d =>
    intro Pend hpend
    refine ⟨fun p t hp hdm y B hy => ?_, fun hx => by simp at hx⟩
    cases p with
    | zero =>
      simp only [List.getElem?_cons_zero, Option.some.injEq] at hp; subst hp
      rcases hpend y B hy with h | h
      · exact .inl h
      · exact .inr (.inl ⟨rfl, h⟩)
    | succ p =>
      have := (d.kind t (List.mem_of_getElem? (by simpa using hp))).1
      omega

theorem LV.fresh {plan : Plan} {e e1 : Env} {st s1 : St} {h h1 : Mem} {old o1 : List Mem} {tr : List TE} {x : X} (d : LV P F plan e st h old tr x e1 s1 h1 o1) :
    ∀ nF, (∀ y, st.nx ≤ y → y < nF → st.H y = none) → (∀ m ∈ h :: old, ∀ y, st.nx ≤ y → y < nF → m y = none) → ∀ t ∈ tr, ∀ m ∈ (t : TE).h :: t.old, ∀ y, t.s.nx ≤ y → y < nF → m y = none := by
  induction d with
  | nil => intro nF _ _ t ht; simp at ht
  | @step e e1 st st' s1 h h' h1 old old' o1 tr x i r u rest v res hs _ ih =>
    intro nF hst hm t ht
    rcases List.mem_cons.1 ht with rfl | ht
    · exact hm
    · have hle : st.nx ≤ st'.nx := by have := hs.le; have := hs.top; simp only at *; omega
      have hst' : ∀ y, st'.nx ≤ y → y < nF → st'.H y = none := by
        intro y h1 h2
        rcases hs.mem with ⟨_, _, _, _, hd, _⟩ | ⟨_, _, _, _, ⟨rfl, _⟩ | ⟨b, hres, hH⟩⟩
        · cases hy : st'.H y with
          | none => rfl
          | some B =>
            rcases hd y (by rw [hy]; simp) with h | h
            · exact absurd (hst y (by omega) h2) h
            · simp only at h; omega
        · exact hst y h1 h2
        · rw [hH]
          have := hs.top
          simp only [TE.top] at this hres
          rw [hres] at this
          simp only at this
          have hne : y ≠ st.nx := by omega
          simp only [Mem.upd, hne, if_false]
          exact hst y (by omega) h2
      refine ih nF hst' ?_ t ht
      rcases hs.mem with ⟨_, rfl, rfl, _⟩ | ⟨_, _, rfl, rfl, _⟩
      · intro m hm' y h1 h2
        rcases List.mem_cons.1 hm' with rfl | hm'
        · exact hst' y h1 h2
        · exact hm m hm' y (by omega) h2
      · intro m hm' y h1 h2
        exact hm m hm' y (by omega) h2
  | @pan e st sF st' h old tr i r u rest q v hac hn _ _ _ _ d =>
    intro nF hst hm t ht
    rcases List.mem_cons.1 ht with rfl | ht
    · exact hm
    · obtain ⟨_, h2, h3, _⟩ := d.kind t ht
      have := (d.nx).2.1 t ht
      intro m hm' y h4 h5
      rw [h2, h3] at hm'
      exact hm m hm' y (by omega) h5

end
end Go.AM
