import Derived.Test.YtpkmlogclnjijaaGreatAm33
set_option linter.unusedVariables false
namespace Go.AM
open Go.Proofs

theorem heap_alloc (w : World) (o : Obj) : (w.alloc o).heap = w.heap.push o := rfl

theorem Post.alloc {m : Mp} {st : St} {w : World} (hH : RelH m st.H w) (o : Obj) (ho : ∀ off, frz (some o) off = false) : Post m st w m st (w.alloc o) := by
  have heq : ∀ k, k < w.heap.size → (w.alloc o).heap[k]? = w.heap[k]? := by
    intro k hk; rw [World.alloc, Array.getElem?_push]; simp [Nat.ne_of_lt hk]
  refine ⟨⟨fun i B hi => ?_, hH.inj⟩, fun _ _ => rfl, by rw [heap_alloc, Array.size_push]; exact Nat.le_succ _, fun k hk _ => heq k hk, fun i B l hi hr hl => .inr ⟨i, B, l, hi, hr, hl, rfl⟩, fun _ _ h => h, WS.push rfl ho ⟨rfl, rfl⟩, Nat.le_refl _, fun _ h => .inl h⟩
  obtain ⟨l, hl, hb⟩ := hH.blk i B hi
  exact ⟨l, hl, hb.mono (Mp.le.refl m) (heq _ hb.lt)⟩

theorem WS.setCell (w : World) (a : Addr) (v : Value) : WS w (w.setCell a v) := by
  refine ⟨rfl, rfl, fun b off => ?_⟩
  simp only [World.setCell, Array.getElem?_modify]
  split
  · rename_i h
    cases hb : w.heap[b]? with
    | none => rfl
    | some o => cases o <;> rfl
  · rfl

theorem Post.after {m m' : Mp} {st st' : St} {w w1 w2 : World} (hp : Post m st w m' st' w1) (hw : ∀ k, k < w1.heap.size → (k < w.heap.size ∨ ∃ i B l, st'.H i = some B ∧ m' i = some l ∧ l.blk = k) → w2.heap[k]? = w1.heap[k]?)
    (hsz : w1.heap.size ≤ w2.heap.size) (hws : WS w1 w2) : Post m st w m' st' w2 := by
  refine ⟨⟨fun i B hi => ?_, hp.rel.inj⟩, hp.out, Nat.le_trans hp.size hsz, fun k hk hb => ?_, hp.own, hp.ro, hp.ws.trans hws, hp.nx, hp.dom⟩
  · obtain ⟨l, hl, hb⟩ := hp.rel.blk i B hi
    exact ⟨l, hl, hb.mono (Mp.le.refl m') (hw _ hb.lt (.inr ⟨i, B, l, hi, hl, rfl⟩))⟩
  · have := hp.size
    rw [hw k (by omega) (.inl hk)]
    exact hp.fr k hk hb

/-- A fault, as the program's own struct of two ints. -/
def faultV (a b : Int) : AV := .agg [1, 1] [.int .i64 a, .int .i64 b]

/-- trap.Catch -/
def catchS (F : CallT) : CallT := fun _ args st =>
  match args with
  | [.nilFunc] => some (.val (.tuple [faultV 0 0, .bool false]), st)
  | [.func g x y] => match F g (x.map (fun p => .ptr (some p)) ++ y.map (fun p => .ptr (some p))) st with
    | some (.val _, st') => some (.val (.tuple [faultV 0 0, .bool false]), st')
    | some (.pan (.iface t (.agg cs)), st') => match cs.toList with
      | [.int .i64 a, .int .i64 b] => if t = 292 then some (.val (.tuple [faultV a b, .bool true]), st') else none
      | _ => none
    | _ => none
  | _ => none

theorem faultV_rel {m : Mp} (a b : Int) (c : Bool) : RelV m (.tuple [faultV a b, .bool c]) (.tuple #[.agg #[.int .i64 a, .int .i64 b], .bool c]) :=
  ⟨_, rfl, ⟨⟨rfl, rfl, rfl, trivial⟩, _, rfl, rfl, rfl, trivial⟩, ⟨rfl, rfl⟩, trivial⟩

theorem catch_inv {F : CallT} {f : Nat} {args : List AV} {st st' : St} {out : Out} (h : catchS F f args st = some (out, st')) :
    (args = [.nilFunc] ∧ out = .val (.tuple [faultV 0 0, .bool false]) ∧ st' = st) ∨
    (∃ g x y, args = [.func g x y] ∧ ((∃ v, F g (x.map (fun p => .ptr (some p)) ++ y.map (fun p => .ptr (some p))) st = some (.val v, st') ∧ out = .val (.tuple [faultV 0 0, .bool false])) ∨
      (∃ a b, F g (x.map (fun p => .ptr (some p)) ++ y.map (fun p => .ptr (some p))) st = some (.pan (.iface 292 (.agg #[.int .i64 a, .int .i64 b])), st') ∧ out = .val (.tuple [faultV a b, .bool true])))) := by
  unfold catchS at h
  split at h
  · simp only [Option.some.injEq, Prod.mk.injEq] at h
    exact .inl ⟨rfl, h.1.symm, h.2.symm⟩
  · rename_i g x y
    refine .inr ⟨g, x, y, rfl, ?_⟩
    split at h
    · rename_i v st1 h1
      simp only [Option.some.injEq, Prod.mk.injEq] at h
      obtain ⟨rfl, rfl⟩ := h
      exact .inl ⟨v, h1, rfl⟩
    · rename_i t cs st1 h1
      split at h
      · rename_i a b hcs
        split at h
        · rename_i ht
          simp only [Option.some.injEq, Prod.mk.injEq] at h
          obtain ⟨rfl, rfl⟩ := h
          subst ht
          have : cs = #[.int .i64 a, .int .i64 b] := by cases cs; simp at hcs; simp [hcs]
          subst this
          exact .inr ⟨a, b, h1, rfl⟩
        · simp at h
      · simp at h
    · simp at h
  · simp at h

theorem catch_sound {F : CallT} (hF : FSound Tryz.prog F) : FSound1 Tryz.prog (catchS F) 197 := by
  have hok : ∀ (c : Array Value) (t : Nat) (off : Nat), frz (some (.cells c t)) off = false := by intro c t off; simp [frz]
  refine ⟨?_, ?_, ?_, ?_⟩
  · intro args st out st' h
    rcases catch_inv h with ⟨_, _, rfl⟩ | ⟨g, x, y, _, ⟨v, h1, _⟩ | ⟨a, b, h1, _⟩⟩
    · exact Nat.le_refl _
    · exact hF.nx _ _ _ _ _ h1
    · exact hF.nx _ _ _ _ _ h1
  · intro args st out st' h
    rcases catch_inv h with ⟨_, _, rfl⟩ | ⟨g, x, y, _, ⟨v, h1, _⟩ | ⟨a, b, h1, _⟩⟩
    · exact fun y hy => .inl hy
    · exact hF.dom _ _ _ _ _ h1
    · exact hF.dom _ _ _ _ _ h1
  · intro args st out st' h cargs w
    have hf := Tryz.func197
    have hb : Tryz.f197.body.isNone = false := by decide +kernel
    have hn : (Tryz.f197.name == "runtime.NumGoroutine") = false := by decide +kernel
    simp only [callFunc, Sem.run_bind, run_program, Result.andThen_ok, hf, hn, hb, Bool.false_eq_true, if_false]
    rfl
  · intro args st out st' h m w cargs hH hu ha
    rcases catch_inv h with ⟨rfl, rfl, rfl⟩ | ⟨g, x, y, rfl, hcase⟩
    · obtain ⟨c, rfl, hc⟩ : ∃ c, cargs = #[c] ∧ RelV m .nilFunc c := by
        match hq : cargs.toList, ha with
        | [c], ha => exact ⟨c, by cases cargs; simp at hq; simp [hq], ha.1⟩
      have : c = .nilFunc := hc.2
      subst this
      refine (CatchT.catch_nil w).mono ?_
      rintro e w' ⟨rfl, rfl⟩
      have p1 := Post.alloc hH (.cells #[.int .i64 0, .int .i64 0] 268) (hok _ _)
      have p2 := Post.alloc p1.rel (.cells #[.bool false] 4) (hok _ _)
      exact ⟨m, p1.trans p2, _, rfl, faultV_rel 0 0 false⟩
    · obtain ⟨c, rfl, hc⟩ : ∃ c, cargs = #[c] ∧ RelV m (.func g x y) c := by
        match hq : cargs.toList, ha with
        | [c], ha => exact ⟨c, by cases cargs; simp at hq; simp [hq], ha.1⟩
      obtain ⟨_, x1, y1, rfl, hx, hy⟩ := hc
      have p1 := Post.alloc hH (.cells #[.int .i64 0, .int .i64 0] 268) (hok _ _)
      have p2 := p1.trans (Post.alloc p1.rel (.cells #[.bool false] 4) (hok _ _))
      have conv : ∀ {ps : List APtr} {cs : List Value}, All2 (RelPV m) ps cs → All2 (RelV m) (ps.map fun p => .ptr (some p)) cs := by
        intro ps
        induction ps with
        | nil =>
          intro cs h
          cases cs with
          | nil => trivial
          | cons => exact h.elim
        | cons p ps ih =>
          intro cs h
          cases cs with
          | nil => exact h.elim
          | cons c cs => exact ⟨⟨trivial, h.1⟩, ih h.2⟩
      have hargs : All2 (RelV m) (x.map (fun p => .ptr (some p)) ++ y.map (fun p => .ptr (some p))) (x1 ++ y1).toList := by
        simpa using (conv hx).append (conv hy)
      obtain ⟨o, hcall, ho⟩ : ∃ o, F g (x.map (fun p => .ptr (some p)) ++ y.map (fun p => .ptr (some p))) st = some (o, st') ∧
          ((∃ v, o = .val v ∧ out = .val (.tuple [faultV 0 0, .bool false])) ∨ (∃ a b, o = .pan (.iface 292 (.agg #[.int .i64 a, .int .i64 b])) ∧ out = .val (.tuple [faultV a b, .bool true]))) := by
        rcases hcase with ⟨v, h1, h2⟩ | ⟨a, b, h1, h2⟩
        · exact ⟨_, h1, .inl ⟨v, rfl, h2⟩⟩
        · exact ⟨_, h1, .inr ⟨a, b, rfl, h2⟩⟩
      have hC := hF.calls g _ st o st' hcall m _ (x1 ++ y1) p2.rel hu hargs
      have hsz : ((w.alloc (.cells #[.int .i64 0, .int .i64 0] 268)).alloc (.cells #[.bool false] 4)).heap.size = w.heap.size + 2 := by simp only [heap_alloc, Array.size_push]
      -- the two new blocks are nobody's
      have nob : ∀ {m' : Mp} {w1 : World}, Post m st ((w.alloc (.cells #[.int .i64 0, .int .i64 0] 268)).alloc (.cells #[.bool false] 4)) m' st' w1 → ∀ i B l, st'.H i = some B → m' i = some l → l.blk < w.heap.size ∨ w.heap.size + 2 ≤ l.blk := by
        intro m' w1 hp i B l hi hl
        have old : ∀ j Bj lj, st.H j = some Bj → m j = some lj → lj.blk < w.heap.size := by
          intro j Bj lj hj hlj
          obtain ⟨l', hl', hb⟩ := hH.blk j Bj hj
          rw [hlj] at hl'; simp only [Option.some.injEq] at hl'; subst hl'
          exact hb.lt
        cases hr : B.rw with
        | true =>
          rcases hp.own i B l hi hr hl with h1 | ⟨j, Bj, lj, hj, _, hlj, hb⟩
          · exact .inr (by omega)
          · exact .inl (by have := old j Bj lj hj hlj; omega)
        | false =>
          cases B with
          | tree => simp [Blk.rw] at hr
          | amap => simp [Blk.rw] at hr
          | ro t =>
            have h1 := hp.ro i t hi
            obtain ⟨l', hl', hb⟩ := hH.blk i _ h1
            have := hp.le hu i l' hl'
            rw [hl] at this; simp only [Option.some.injEq] at this; subst this
            exact .inl hb.lt
      refine (CatchT.catch_call g x1 y1 w (hF.enters g _ st o st' hcall (x1 ++ y1)) _ hC ?_).mono ?_
      · rintro e w' ⟨m', hp, hout⟩
        have keep : ∀ k, w.heap.size ≤ k → k < w.heap.size + 2 → w'.heap[k]? = ((w.alloc (.cells #[.int .i64 0, .int .i64 0] 268)).alloc (.cells #[.bool false] 4)).heap[k]? := by
          intro k h1 h2
          refine hp.fr k (by omega) fun i B l hi hr hl he => ?_
          obtain ⟨l', hl', hb⟩ := hH.blk i B hi
          rw [hl] at hl'; simp only [Option.some.injEq] at hl'; subst hl'
          have := hb.lt
          omega
        refine ⟨⟨?_, ?_⟩, ?_⟩
        · rw [keep _ (Nat.le_refl _) (by omega)]
          simp [heap_alloc, -World.alloc_eq, Array.getElem?_push]
        · rw [keep _ (by omega) (by omega), heap_alloc, heap_alloc, Array.getElem?_push, if_pos (by rw [Array.size_push])]
        · rcases ho with ⟨v, rfl, _⟩ | ⟨a, b, rfl, _⟩
          · obtain ⟨c, rfl, _⟩ := hout
            exact .inl ⟨c, rfl⟩
          · obtain ⟨c, rfl, hc⟩ := hout
            have : c = .iface 292 (.agg #[.int .i64 a, .int .i64 b]) := hc.2
            subst this
            exact .inr ⟨a, b, rfl⟩
      · have fin : ∀ {m' : Mp} {w1 w2 : World}, Post m st ((w.alloc (.cells #[.int .i64 0, .int .i64 0] 268)).alloc (.cells #[.bool false] 4)) m' st' w1 → (∀ k, k < w1.heap.size → k ≠ w.heap.size → k ≠ w.heap.size + 1 → w2.heap[k]? = w1.heap[k]?) → w1.heap.size ≤ w2.heap.size → WS w1 w2 →
            Post m st w m' st' w2 := by
          intro m' w1 w2 hp hk hs hws
          refine (p2.trans hp).after (fun k hk1 hk2 => hk k hk1 ?_ ?_) hs hws
          · rcases hk2 with hk2 | ⟨i, B, l, hi, hl, rfl⟩
            · omega
            · have := nob hp i B l hi hl; omega
          · rcases hk2 with hk2 | ⟨i, B, l, hi, hl, rfl⟩
            · omega
            · have := nob hp i B l hi hl; omega
        rintro e w' (⟨v, w1, ⟨m', hp, hout⟩, rfl, rfl⟩ | ⟨a, b, w1, ⟨m', hp, hout⟩, rfl, rfl⟩)
        · rcases ho with ⟨v', rfl, rfl⟩ | ⟨a, b, rfl, rfl⟩
          · refine ⟨m', fin hp (fun k h1 h2 h3 => ?_) (by simp [World.setCell]) ((WS.setCell _ _ _).trans ((WS.setCell _ _ _).trans (WS.setCell _ _ _))), _, rfl, faultV_rel 0 0 false⟩
            simp only [World.setCell, Array.getElem?_modify]
            rw [if_neg (Ne.symm h3), if_neg (Ne.symm h2), if_neg (Ne.symm h2)]
          · obtain ⟨c, hc, _⟩ := hout
            cases hc
        · rcases ho with ⟨v', rfl, rfl⟩ | ⟨a', b', rfl, rfl⟩
          · obtain ⟨c, hc, _⟩ := hout
            cases hc
          · obtain ⟨c, hc, hcv⟩ := hout
            have hcc : c = .iface 292 (.agg #[.int .i64 a', .int .i64 b']) := hcv.2
            subst hcc
            simp only [Ending.panicked.injEq, List.cons.injEq, PanicEntry.mk.injEq, Value.iface.injEq, Value.agg.injEq, Array.mk.injEq, Value.int.injEq, true_and, and_true] at hc
            have hab : a = a' ∧ b = b' := by simpa using hc
            obtain ⟨rfl, rfl⟩ := hab
            refine ⟨m', fin hp (fun k h1 h2 h3 => ?_) (by rw [heap_alloc, Array.size_push]; simp [World.setCell]) ((WS.setCell _ _ _).trans ((WS.setCell _ _ _).trans ((WS.setCell _ _ _).trans (WS.push rfl (hok _ _) ⟨rfl, rfl⟩)))), _, rfl, faultV_rel a b true⟩
            rw [World.alloc, Array.getElem?_push, if_neg (by simp [World.setCell]; omega)]
            simp only [World.setCell, Array.getElem?_modify]
            rw [if_neg (Ne.symm h3), if_neg (Ne.symm h2), if_neg (Ne.symm h2)]

end Go.AM
