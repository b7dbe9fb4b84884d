import Derived.Test.YtpkmlogclnjijaaGreatAm22
set_option linter.unusedVariables false
namespace Go.AM

section
variable {P : Program} {F : CallT} (hF : FSound P F) {N : Nat} {ops : Array Oper} {e0 : Env} {st0 : St} {x : X} {e1 : Env} {st1 : St} (C : Canon P F N ops e0 st0 x e1 st1) {m0 : Mp} {w0 : World} {a0 : Act}

theorem draw_end {D : Nat → Prop} {m : Mp} {G : Mem} {k : Nat} {a : Act} {w : World} (I : DInv C m0 w0 a0 D m G k a w) (hall : ∀ i, i < ops.size → D i) : Good m0 st0 w0 x e1 st1 a0 .normal a w := by
  rcases C.fin with ⟨rfl, hJ, hnp, hmem, henv⟩ | ⟨i, v, st', hi, hp⟩
  · have hk : k = C.J := by
      refine Nat.le_antisymm I.kle (Nat.not_lt.1 fun hlt => ?_)
      obtain ⟨j, hj, hac, hkj⟩ := C.kex k (by omega)
      have := (I.acts j hj hac).1 (hall j hj)
      omega
    refine ⟨m, ?_, trivial, ?_, I.size, I.defers⟩
    · have := I.post.forget (H := st1.H) fun y B hy => by
        rcases hmem y B hy with h | ⟨j, hj, hkj, rfl, v, hr⟩
        · exact I.mem y B (hk ▸ h)
        · exact I.als j v B (hall j hj) hr (by omega)
      exact this
    · intro s v hv
      rcases henv s v hv with ⟨j, hj, hd, hval⟩ | ⟨hno, h0⟩
      · exact I.vals j s v (hall j hj) hd hval
      · exact I.rest s v h0 fun i hi => hno i (I.dlt i hi)
  · exact absurd (by rw [hp]; rfl) (I.ndesc i (hall i hi))

/-- how many are not done yet -/
def unl (n : Nat) (l : Array Bool) : Nat := ((List.range n).filter fun i => !l.getD i false).length

theorem unl_set {n i : Nat} {l : Array Bool} (hi : i < n) (hs : l.size = n) (hu : l.getD i false = false) : unl n (l.setIfInBounds i true) < unl n l := by
  have hsub : ∀ L : List Nat, (L.filter fun j => !(l.setIfInBounds i true).getD j false).length ≤ (L.filter fun j => !l.getD j false).length := by
    intro L
    induction L with
    | nil => simp
    | cons q L ih =>
      simp only [List.filter_cons]
      by_cases hq : q = i
      · subst hq
        have : (l.setIfInBounds q true).getD q false = true := by simp [Array.getD_eq_getD_getElem?, hs, hi]
        simp only [this, hu, Bool.not_true, Bool.not_false, Bool.false_eq_true, if_false, if_true, List.length_cons]
        omega
      · have : (l.setIfInBounds i true).getD q false = l.getD q false := by
          simp [Array.getD_eq_getD_getElem?, Array.getElem?_setIfInBounds_ne (Ne.symm hq)]
        simp only [this]
        cases l.getD q false <;> simp only [Bool.not_true, Bool.not_false, Bool.false_eq_true, if_false, if_true, List.length_cons] <;> omega
  have hmem : i ∈ List.range n := List.mem_range.2 hi
  obtain ⟨L1, L2, hL⟩ := List.append_of_mem hmem
  unfold unl
  rw [hL, List.filter_append, List.filter_append, List.filter_cons, List.filter_cons]
  have h1 : (l.setIfInBounds i true).getD i false = true := by simp [Array.getD_eq_getD_getElem?, hs, hi]
  have a1 := hsub L1
  have a2 := hsub L2
  simp only [h1, hu, Bool.not_true, Bool.not_false, Bool.false_eq_true, if_false, if_true, List.length_cons, List.length_append]
  omega

include hF C

theorem draw_any (hon : ∀ j o, ops[j]? = some o → ∀ ed ∈ o.after, Region.binds .any ed = true → ed.on < j) {Q : Exit → Act → World → Prop} (hQ : ∀ ex a' w', Good m0 st0 w0 x e1 st1 a0 ex a' w' → Q ex a' w') :
    ∀ (fuel : Nat) (listed : Array Bool) (a : Act) (w : World) (m : Mp) (G : Mem) (k : Nat), listed.size = ops.size → DInv C m0 w0 a0 (fun i => i < ops.size ∧ listed.getD i false = true) m G k a w → a.tmps.size = N → unl ops.size listed ≤ fuel →
      wpAny P .any ops Q fuel listed a w := by
  have ready_nil : ∀ (listed : Array Bool), listed.size = ops.size → Region.ready .any ops listed = [] → ∀ i, i < ops.size → listed.getD i false = true := by
    intro listed hs hr i
    induction i using Nat.strongRecOn with
    | _ i ih =>
      intro hi
      cases hl : listed.getD i false with
      | true => rfl
      | false =>
        exfalso
        have hmem : i ∈ Region.ready .any ops listed := by
          rw [mem_ready]
          refine ⟨?_, ops[i], by simp [hi], ?_⟩
          · have : i < listed.size := by omega
            rw [Array.getD_eq_getD_getElem?] at hl ⊢
            simp only [this, getElem?_pos, Option.getD_some] at hl ⊢
            exact hl
          · intro ed hed hb
            have := hon i ops[i] (by simp [hi]) ed hed hb
            exact ih ed.on this (by omega)
        rw [hr] at hmem; simp at hmem
  intro fuel
  induction fuel with
  | zero =>
    intro listed a w m G k hs I hN hu
    have hall : ∀ i, i < ops.size → listed.getD i false = true := by
      intro i hi
      cases hl : listed.getD i false with
      | true => rfl
      | false =>
        exfalso
        have : i ∈ (List.range ops.size).filter fun i => !listed.getD i false := by simp only [List.mem_filter, List.mem_range, hl]; exact ⟨hi, rfl⟩
        have := List.length_pos_of_mem this
        unfold unl at hu; omega
    refine ⟨?_, hQ _ _ _ (draw_end C I fun i hi => ⟨hi, hall i hi⟩)⟩
    cases hr : Region.ready .any ops listed with
    | nil => rfl
    | cons i rest =>
      have hm : i ∈ Region.ready .any ops listed := by rw [hr]; simp
      rw [mem_ready] at hm
      obtain ⟨h1, o, ho, _⟩ := hm
      have hi := (Array.getElem?_eq_some_iff.1 ho).1
      have h2 := hall i hi
      rw [Array.getD_eq_getD_getElem?] at h1 h2
      have : i < listed.size := by omega
      simp only [this, getElem?_pos, Option.getD_some] at h1 h2
      rw [h1] at h2; simp at h2
  | succ fuel ih =>
    intro listed a w m G k hs I hN hu
    refine ⟨fun hr => hQ _ _ _ (draw_end C I fun i hi => ⟨hi, ready_nil listed hs hr i hi⟩), fun i hm => ?_⟩
    rw [mem_ready] at hm
    obtain ⟨h1, o, ho, hall⟩ := hm
    have hi := (Array.getElem?_eq_some_iff.1 ho).1
    have hni : listed.getD i false = false := by
      have : i < listed.size := by omega
      rw [Array.getD_eq_getD_getElem?] at h1 ⊢
      simp only [this, getElem?_pos, Option.getD_some] at h1 ⊢
      exact h1
    refine draw_step hF C I hN hQ hi (fun h => by rw [hni] at h; simp at h) ?_ ?_
    · intro o' ho' ed hed hb
      rw [ho] at ho'; simp only [Option.some.injEq] at ho'; subst ho'
      have := hon i o ho ed hed hb
      exact ⟨by omega, hall ed hed hb⟩
    · intro m' G' k' a' w' I' hN'
      refine ih (listed.setIfInBounds i true) a' w' m' G' k' (by simp [hs]) (I'.congr fun j => ?_) hN' ?_
      · constructor
        · rintro (⟨hj, hl⟩ | rfl)
          · exact ⟨hj, getD_set_true hl⟩
          · exact ⟨hi, by simp [Array.getD_eq_getD_getElem?, hs, hi]⟩
        · rintro ⟨hj, hl⟩
          by_cases hji : j = i
          · exact .inr hji
          · left
            refine ⟨hj, ?_⟩
            rwa [getD_set_ne false (Ne.symm hji)] at hl
      · have := unl_set hi hs hni
        omega

omit C in
theorem draw_sound (C : Canon P F N ops e0 st0 x e1 st1) (hm : P.follows .mixedOrders = true) (hon : ∀ j o, ops[j]? = some o → ∀ ed ∈ o.after, Region.binds .any ed = true → ed.on < j) {id : Nat} {m : Mp} {a : Act} {w : World} (hr : RelEnv m e0 a.tmps) (hN : a.tmps.size = N) (hH : RelH m st0.H w)
    (hu : Unm m st0.nx st1.nx) {Q : Exit → Act → World → Prop} (hQ : ∀ ex a' w', Good m st0 w x e1 st1 a ex a' w' → Q ex a' w') : (Code.region id ops true).wp P Q a w := by
  refine wp_region_any hm (draw_any hF C (m0 := m) (w0 := { w with drawn := w.drawn + 1 }) (a0 := a) hon ?_ ops.size _ a _ m st0.H 0 (by simp) ?_ hN ?_)
  · rintro ex a' w' ⟨m', hp, hx, he, h1, h2⟩
    exact hQ ex a' w' ⟨m', Post.heap (w := w) (w1 := { w with drawn := w.drawn + 1 }) rfl hp, hx, he, h1, h2⟩
  · have hH' : RelH m st0.H { w with drawn := w.drawn + 1 } := hH.heap rfl
    have hnone : ∀ i, ¬ (i < ops.size ∧ (Array.replicate ops.size false).getD i false = true) := by
      rintro i ⟨hi, h⟩
      simp [Array.getD_eq_getD_getElem?, hi] at h
    have hp := Post.refl (st := st0) hH' rfl
    refine ⟨⟨hp.rel, fun i _ => rfl, hp.size, hp.fr, hp.own, hp.ro, hp.ws, C.hnx, fun i h => .inl h⟩, fun j o h => (hnone j h).elim, fun i h => h.1, Nat.zero_le _, fun i hi hac => ?_, fun i h => (hnone i h).elim, fun y B h => by rw [C.hM0] at h; exact h,
      fun i v B h => (hnone i h).elim, ?_, ?_, fun i s v h => (hnone i h).elim, fun s v h _ => hr s v h, rfl, rfl⟩
    · constructor
      · intro h; exact (hnone i h).elim
      · intro h; omega
    · intro i v B hi _ hres
      have := C.done i hi
      rw [hres] at this
      exact hu _ this.2.2.1 this.2.2.2.1
    · intro i v st' hi _ hres
      have := C.done i hi
      rcases hres with hres | hres
      · rw [hres] at this
        exact hu.sub this.2.2.2.2.1 this.2.2.2.2.2.2
      · rw [hres] at this
        exact hu.sub this.2.2.2.2.2.2.2 this.2.2.2.2.2.1
  · unfold unl
    exact Nat.le_trans (List.length_filter_le _ _) (by simp)

end
end Go.AM
