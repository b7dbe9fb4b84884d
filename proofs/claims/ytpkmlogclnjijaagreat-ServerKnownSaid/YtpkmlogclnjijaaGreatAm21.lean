import Derived.Test.YtpkmlogclnjijaaGreatAm20
set_option linter.unusedVariables false
namespace Go.AM

/-! Regions that draw their order. -/

/-- i comes ahead of j, by the edges that bind in every order -/
inductive Anc (ops : Array Oper) : Nat → Nat → Prop
  | one {i j : Nat} {o : Oper} {ed : Edge} : ops[j]? = some o → ed ∈ o.after → Region.binds .any ed = true → ed.on = i → Anc ops i j
  | more {i j : Nat} {o : Oper} {ed : Edge} : ops[j]? = some o → ed ∈ o.after → Region.binds .any ed = true → Anc ops i ed.on → Anc ops i j

def Closed (ops : Array Oper) (D : Nat → Prop) : Prop := ∀ j o, D j → ops[j]? = some o → ∀ ed ∈ o.after, Region.binds .any ed = true → D ed.on

theorem Closed.anc {ops : Array Oper} {D : Nat → Prop} (h : Closed ops D) {i j : Nat} (ha : Anc ops i j) : D j → D i := by
  induction ha with
  | one ho hm hb he => intro hd; exact he ▸ h _ _ hd ho _ hm hb
  | more ho hm hb _ ih => intro hd; exact ih (h _ _ hd ho _ hm hb)

theorem Anc.of_ready {ops : Array Oper} {D : Nat → Prop} (h : Closed ops D) {i j : Nat} (ha : Anc ops i j) (hr : ∀ o, ops[j]? = some o → ∀ ed ∈ o.after, Region.binds .any ed = true → D ed.on) : D i := by
  cases ha with
  | one ho hm hb he => exact he ▸ hr _ ho _ hm hb
  | more ho hm hb ha => exact h.anc ha (hr _ ho _ hm hb)

inductive Res where
  | skip
  | q (v : AV)
  | rd (v : AV)
  | al (v : AV) (B : Blk)
  | ac (v : AV) (st' : St)
  | pan (v : AV) (st' : St)
  | desc

def Res.val : Res → Option AV
  | .skip => some (.tuple [])
  | .q v | .rd v | .al v _ | .ac v _ => some v
  | _ => none

def RI.isAc (r : RI) : Bool := match r.op with | .ac _ => true | _ => false

/-- The canonical run of a region, op by op. -/
structure Canon (P : Program) (F : CallT) (N : Nat) (ops : Array Oper) (e0 : Env) (st0 : St) (x : X) (e1 : Env) (st1 : St) where
  R : Nat → RI
  K : Nat → Nat
  U : Nat → Nat
  E : Nat → Env
  S : Nat → St
  res : Nat → Res
  M : Nat → Mem
  J : Nat
  total : Nat
  hchk : ∀ i, i < ops.size → chkI P N ops i (R i) = true
  hM0 : M 0 = st0.H
  hnx : st0.nx ≤ st1.nx
  /- order of the actors -/
  kex : ∀ k, k < total → ∃ i, i < ops.size ∧ (R i).isAc = true ∧ K i = k
  klt : ∀ i, i < ops.size → (R i).isAc = true → K i < total
  kle : ∀ i, i < ops.size → K i ≤ total
  kinj : ∀ i j, i < ops.size → j < ops.size → (R i).isAc = true → (R j).isAc = true → K i = K j → i = j
  jle : J ≤ total
  anc1 : ∀ i j, i < ops.size → j < ops.size → (R j).isAc = true → K j < K i - U i → Anc ops j i
  anc2 : ∀ i j, i < ops.size → j < ops.size → (R j).isAc = true → K i ≤ K j → i ≠ j → Anc ops i j
  ancA : ∀ i, i < ops.size → (R i).isAc = true → U i = 0
  /- slots -/
  slots : ∀ i, i < ops.size → res i ≠ .desc → ∀ s ∈ (R i).slots, (∃ j, j < ops.size ∧ (R j).dst = some s ∧ Anc ops j i ∧ ∀ v, (E i).get s = some v → (res j).val = some v) ∨
    ((∀ j, j < ops.size → (R j).dst = some s → j = i ∨ Anc ops i j) ∧ ∀ v, (E i).get s = some v → e0.get s = some v)
  dinj : ∀ i j s, i < ops.size → j < ops.size → (R i).dst = some s → (R j).dst = some s → i = j
  /- what is done -/
  done : ∀ i, i < ops.size → match res i with
    | .skip => wants (E i) (R i).gd = some false ∧ ((R i).isAc = true → M (K i + 1) = (S i).H ∧ K i < J)
    | .q v => wants (E i) (R i).gd = some true ∧ ∃ q, (R i).op = .q q ∧ evQ P (E i) q = some v
    | .rd v => wants (E i) (R i).gd = some true ∧ ∃ q, (R i).op = .rd q ∧ ∀ k, K i - U i ≤ k → k ≤ K i → k ≤ J → evR (M k) (E i) q = some v
    | .al v B => wants (E i) (R i).gd = some true ∧ (∃ q, (R i).op = .al q ∧ evAl (E i) (S i).nx q = some (v, B)) ∧ st0.nx ≤ (S i).nx ∧ (S i).nx < st1.nx ∧ (∀ k, k ≤ K i → M k (S i).nx = none)
    | .ac v st' => wants (E i) (R i).gd = some true ∧ (∃ q, (R i).op = .ac q ∧ evA F (E i) (S i) q = some (.val v, st')) ∧ M (K i + 1) = st'.H ∧ K i < J ∧ st0.nx ≤ (S i).nx ∧ (S i).nx ≤ st'.nx ∧ st'.nx ≤ st1.nx
    | .pan v st' => wants (E i) (R i).gd = some true ∧ (∃ q, (R i).op = .ac q ∧ evA F (E i) (S i) q = some (.pan v, st')) ∧ K i = J ∧ x = .pan v ∧ st'.H = st1.H ∧ st'.nx ≤ st1.nx ∧ e1 = [] ∧ st0.nx ≤ (S i).nx
    | .desc => ∃ j, j < ops.size ∧ (∃ v st', res j = .pan v st') ∧ (j = i ∨ Anc ops j i)
  /- names -/
  sub : ∀ i, i < ops.size → (R i).isAc = true → res i ≠ .desc → ∀ y B, (S i).H y = some B → M (K i) y = some B ∨ ∃ j, j < ops.size ∧ K j = K i ∧ j ≠ i ∧ (S j).nx = y ∧ ∃ v, res j = .al v B
  apart : ∀ i j, i < ops.size → j < ops.size → i ≠ j → ∀ v B, res i = .al v B → (∀ v' B', res j = .al v' B' → (S i).nx ≠ (S j).nx) ∧ (∀ v' st', (res j = .ac v' st' ∨ res j = .pan v' st') → ¬ ((S j).nx ≤ (S i).nx ∧ (S i).nx < st'.nx))
  apart2 : ∀ i j, i < ops.size → j < ops.size → i ≠ j → ∀ v st' v' st'', (res i = .ac v st' ∨ res i = .pan v st') → (res j = .ac v' st'' ∨ res j = .pan v' st'') → ∀ y, ¬ ((S i).nx ≤ y ∧ y < st'.nx ∧ (S j).nx ≤ y ∧ y < st''.nx)
  /- the end -/
  fin : (x = .norm ∧ J = total ∧ (∀ i, i < ops.size → ∀ v st', res i ≠ .pan v st') ∧
      (∀ y B, st1.H y = some B → M J y = some B ∨ ∃ j, j < ops.size ∧ K j = J ∧ (S j).nx = y ∧ ∃ v, res j = .al v B) ∧
      (∀ s v, e1.get s = some v → (∃ j, j < ops.size ∧ (R j).dst = some s ∧ (res j).val = some v) ∨ ((∀ j, j < ops.size → (R j).dst ≠ some s) ∧ e0.get s = some v))) ∨
    (∃ i v st', i < ops.size ∧ res i = .pan v st')

/-- What holds while a region is done in any order: D is what has been done. -/
structure DInv {P : Program} {F : CallT} {N : Nat} {ops : Array Oper} {e0 : Env} {st0 : St} {x : X} {e1 : Env} {st1 : St} (C : Canon P F N ops e0 st0 x e1 st1) (m0 : Mp) (w0 : World) (a0 : Act) (D : Nat → Prop) (m : Mp) (G : Mem) (k : Nat) (a : Act) (w : World) : Prop where
  post : Post m0 st0 w0 m ⟨G, st1.nx⟩ w
  closed : Closed ops D
  dlt : ∀ i, D i → i < ops.size
  kle : k ≤ C.J
  acts : ∀ i, i < ops.size → (C.R i).isAc = true → (D i ↔ C.K i < k)
  ndesc : ∀ i, D i → (C.res i).val ≠ none
  mem : ∀ y B, C.M k y = some B → G y = some B
  als : ∀ i v B, D i → C.res i = .al v B → k ≤ C.K i → G (C.S i).nx = some B
  unl : ∀ i v B, i < ops.size → ¬ D i → C.res i = .al v B → m (C.S i).nx = none
  una : ∀ i v st', i < ops.size → ¬ D i → (C.res i = .ac v st' ∨ C.res i = .pan v st') → Unm m (C.S i).nx st'.nx
  vals : ∀ i s v, D i → (C.R i).dst = some s → (C.res i).val = some v → RelV m v (a.tmps.getD s undef)
  rest : ∀ s v, e0.get s = some v → (∀ i, D i → (C.R i).dst ≠ some s) → RelV m v (a.tmps.getD s undef)
  size : a.tmps.size = a0.tmps.size
  defers : a.defers = a0.defers

section
variable {P : Program} {F : CallT} {N : Nat} {ops : Array Oper} {e0 : Env} {st0 : St} {x : X} {e1 : Env} {st1 : St} {C : Canon P F N ops e0 st0 x e1 st1} {m0 : Mp} {w0 : World} {a0 : Act} {D : Nat → Prop} {m : Mp} {G : Mem} {k : Nat} {a : Act} {w : World}

/-- Nothing that waits for what panics is done. -/
theorem DInv.not_desc (I : DInv C m0 w0 a0 D m G k a w) {i : Nat} (hi : i < ops.size) (hready : ∀ o, ops[i]? = some o → ∀ ed ∈ o.after, Region.binds .any ed = true → D ed.on) : C.res i ≠ .desc := by
  intro hd
  have := C.done i hi
  rw [hd] at this
  obtain ⟨j, hj, ⟨v, st', hp⟩, h⟩ := this
  rcases h with h | h
  · subst h; rw [hd] at hp; cases hp
  · have hDj := h.of_ready I.closed hready
    exact I.ndesc j hDj (by rw [hp]; rfl)

/-- An operation that is next reads its operands as in the canonical run. -/
theorem DInv.env (I : DInv C m0 w0 a0 D m G k a w) {i : Nat} (hi : i < ops.size) (hni : ¬ D i) (hready : ∀ o, ops[i]? = some o → ∀ ed ∈ o.after, Region.binds .any ed = true → D ed.on) :
    RelEnv m ((C.E i).keep (C.R i).slots) a.tmps := by
  refine RelEnv.keep fun s hs v hv => ?_
  rcases C.slots i hi (I.not_desc hi hready) s hs with ⟨j, hj, hd, ha, hval⟩ | ⟨hj, hval⟩
  · exact I.vals j s v (ha.of_ready I.closed hready) hd (hval v hv)
  · refine I.rest s v (hval v hv) fun j hDj hd => ?_
    rcases hj j (I.dlt j hDj) hd with rfl | ha
    · exact hni hDj
    · exact hni (I.closed.anc ha hDj)

/-- How many actors were done when an operation is next. -/
theorem DInv.count (I : DInv C m0 w0 a0 D m G k a w) {i : Nat} (hi : i < ops.size) (hni : ¬ D i) (hready : ∀ o, ops[i]? = some o → ∀ ed ∈ o.after, Region.binds .any ed = true → D ed.on) :
    C.K i - C.U i ≤ k ∧ k ≤ C.K i := by
  constructor
  · refine Nat.not_lt.1 fun hlt => ?_
    obtain ⟨j, hj, hac, hk⟩ := C.kex k (by have := C.kle i hi; omega)
    have := (C.anc1 i j hi hj hac (by omega)).of_ready I.closed hready
    have := (I.acts j hj hac).1 this
    omega
  · refine Nat.not_lt.1 fun hlt => ?_
    have h1 := I.kle
    have h2 := C.jle
    obtain ⟨j, hj, hac, hk⟩ := C.kex (C.K i) (by omega)
    have hDj := (I.acts j hj hac).2 (by omega)
    by_cases hij : i = j
    · subst hij; exact hni hDj
    · exact hni (I.closed.anc (C.anc2 i j hi hj hac (by omega) hij) hDj)

theorem DInv.count_ac (I : DInv C m0 w0 a0 D m G k a w) {i : Nat} (hi : i < ops.size) (hni : ¬ D i) (hac : (C.R i).isAc = true) (hready : ∀ o, ops[i]? = some o → ∀ ed ∈ o.after, Region.binds .any ed = true → D ed.on) : C.K i = k := by
  have h1 := I.count hi hni hready
  have h2 := C.ancA i hi hac
  omega

/-- An operation is done that leaves memory as it is. -/
theorem DInv.step (I : DInv C m0 w0 a0 D m G k a w) {i : Nat} {o : Oper} {v : AV} {c : Value} (hi : i < ops.size) (ho : ops[i]? = some o) (hready : ∀ o, ops[i]? = some o → ∀ ed ∈ o.after, Region.binds .any ed = true → D ed.on)
    (hN : a.tmps.size = N) {m' : Mp} {G' : Mem} {k' : Nat} {w' : World} (hv : (C.res i).val = some v) (hc : RelV m' v c) (hle : m.le m')
    (hpost : Post m0 st0 w0 m' ⟨G', st1.nx⟩ w') (hk' : k' ≤ C.J) (hacts : ∀ j, j < ops.size → (C.R j).isAc = true → ((D j ∨ j = i) ↔ C.K j < k'))
    (hmem : ∀ y B, C.M k' y = some B → G' y = some B) (hals : ∀ j v B, (D j ∨ j = i) → C.res j = .al v B → k' ≤ C.K j → G' (C.S j).nx = some B)
    (hunl : ∀ j v B, j < ops.size → ¬ D j → j ≠ i → C.res j = .al v B → m' (C.S j).nx = none)
    (huna : ∀ j v st', j < ops.size → ¬ D j → j ≠ i → (C.res j = .ac v st' ∨ C.res j = .pan v st') → Unm m' (C.S j).nx st'.nx) :
    DInv C m0 w0 a0 (fun j => D j ∨ j = i) m' G' k' (a.put o.dst c) w' := by
  obtain ⟨o', ho', hdst, hdN, _, _⟩ := chkI_spec (C.hchk i hi)
  rw [ho] at ho'; simp only [Option.some.injEq] at ho'; subst ho'
  refine ⟨hpost, ?_, ?_, hk', hacts, ?_, hmem, hals, ?_, ?_, ?_, ?_, by rw [put_size]; exact I.size, by rw [put_defers]; exact I.defers⟩
  · intro j oj hj hoj ed hed hb
    rcases hj with hj | rfl
    · exact .inl (I.closed j oj hj hoj ed hed hb)
    · exact .inl (hready oj hoj ed hed hb)
  · rintro j (hj | rfl)
    · exact I.dlt j hj
    · exact hi
  · rintro j (hj | rfl)
    · exact I.ndesc j hj
    · rw [hv]; simp
  · intro j v' B hj hnd hres
    exact hunl j v' B hj (fun h => hnd (.inl h)) (fun h => hnd (.inr h)) hres
  · intro j v' st' hj hnd hres
    exact huna j v' st' hj (fun h => hnd (.inl h)) (fun h => hnd (.inr h)) hres
  · intro j s u hj hd hval
    by_cases hij : j = i
    · subst hij
      rw [hv] at hval; simp only [Option.some.injEq] at hval; subst hval
      rw [← hdst] at hd
      have hs : s < a.tmps.size := by rw [hN]; exact hdN s (by rw [← hdst]; exact hd)
      rw [hd]
      simpa [Act.put, Array.getD_eq_getD_getElem?, hs] using hc
    · have hDj : D j := hj.resolve_right hij
      have h1 := (I.vals j s u hDj hd hval).mono hle
      cases hod : o.dst with
      | none => exact h1
      | some d =>
        have hne : d ≠ s := by
          intro he; subst he
          exact hij (C.dinj j i d (I.dlt j hDj) hi hd (by rw [← hdst]; exact hod))
        simpa [Act.put, Array.getD_eq_getD_getElem?, Array.getElem?_setIfInBounds_ne hne] using h1
  · intro s u hu hno
    have h1 := (I.rest s u hu fun j hj => hno j (.inl hj)).mono hle
    cases hod : o.dst with
    | none => exact h1
    | some d =>
      have hne : d ≠ s := by
        intro he; subst he
        exact hno i (.inr rfl) (by rw [← hdst]; exact hod)
      simpa [Act.put, Array.getD_eq_getD_getElem?, Array.getElem?_setIfInBounds_ne hne] using h1

end
end Go.AM
