import Derived.Test.YtpkmlogclnjijaaGreatAm25
set_option linter.unusedVariables false
namespace Go.AM

/-! Whether a plan is fit for a region. -/

def maskOf (acc : List Nat) : List Edge → Nat → Nat
  | [], s => s
  | ed :: r, s => maskOf acc r (if Region.binds .any ed then (s ||| acc.getD ed.on 0) ||| (1 <<< ed.on) else s)

def masks : List Oper → List Nat → List Nat
  | [], acc => acc
  | o :: r, acc => masks r (acc ++ [maskOf acc o.after.toList 0])

theorem maskOf_sound {ops : Array Oper} {acc : List Nat} (hacc : ∀ j b, (acc.getD j 0).testBit b = true → Anc ops b j) {j : Nat} {o : Oper} (ho : ops[j]? = some o) :
    ∀ (l : List Edge) (s : Nat), (∀ ed ∈ l, ed ∈ o.after) → (∀ b, s.testBit b = true → Anc ops b j) → ∀ b, (maskOf acc l s).testBit b = true → Anc ops b j := by
  intro l
  induction l with
  | nil => intro s _ hs b hb; exact hs b hb
  | cons ed l ih =>
    intro s hl hs b hb
    unfold maskOf at hb
    refine ih _ (fun ed' h => hl ed' (List.mem_cons_of_mem _ h)) (fun b hb => ?_) b hb
    split at hb
    · rename_i hbind
      rw [Nat.testBit_or, Nat.testBit_or, Bool.or_eq_true, Bool.or_eq_true] at hb
      rcases hb with (hb | hb) | hb
      · exact hs b hb
      · exact .more ho (hl ed List.mem_cons_self) hbind (hacc _ _ hb)
      · rw [Nat.one_shiftLeft, Nat.testBit_two_pow] at hb
        exact .one ho (hl ed List.mem_cons_self) hbind (of_decide_eq_true hb)
    · exact hs b hb

theorem masks_sound {ops : Array Oper} : ∀ (l pre : List Oper) (acc : List Nat), ops.toList = pre ++ l → pre.length = acc.length → (∀ j b, (acc.getD j 0).testBit b = true → Anc ops b j) → ∀ j b, ((masks l acc).getD j 0).testBit b = true → Anc ops b j := by
  intro l
  induction l with
  | nil => intro pre acc _ _ hacc j b hb; exact hacc j b hb
  | cons o l ih =>
    intro pre acc hl hlen hacc j b hb
    unfold masks at hb
    refine ih (pre ++ [o]) _ (by simp [hl]) (by simp [hlen]) (fun j b hb => ?_) j b hb
    have ho : ops[acc.length]? = some o := by
      rw [← Array.getElem?_toList, hl, ← hlen]; simp
    rw [List.getD_eq_getElem?_getD] at hb
    rcases Nat.lt_trichotomy j acc.length with h | h | h
    · rw [List.getElem?_append_left h, ← List.getD_eq_getElem?_getD] at hb
      exact hacc j b hb
    · subst h
      simp only [List.getElem?_concat_length, Option.getD_some] at hb
      exact maskOf_sound hacc ho _ 0 (fun ed h => by simpa using h) (fun b hb => by simp at hb) b hb
    · rw [List.getElem?_eq_none (by simp; omega)] at hb
      simp at hb

/-- An entry, what is ahead of it, what comes after it. -/
def entryOk (anc : Nat → Nat → Bool) (pre : Plan) (t : Nat × RI × Nat) (rest : Plan) : Bool :=
  ((pre.filter fun q => q.2.1.isAc).take (cnt pre - t.2.2)).all (fun q => anc q.1 t.1) &&
  (!t.2.1.isAc || t.2.2 == 0) &&
  rest.all (fun q => !q.2.1.isAc || anc t.1 q.1) &&
  (match t.2.1.dst with | none => true | some d => pre.all fun q => !(q.2.1.dst == some d)) &&
  t.2.1.slots.all (fun s => pre.any (fun q => q.2.1.dst == some s && anc q.1 t.1) || (pre.all (fun q => !(q.2.1.dst == some s)) && rest.all (fun q => !(q.2.1.dst == some s) || anc t.1 q.1)))

def planGo (anc : Nat → Nat → Bool) : Plan → Plan → Bool
  | _, [] => true
  | pre, t :: rest => entryOk anc pre t rest && planGo anc (pre ++ [t]) rest

def nodupB : List Nat → Bool
  | [] => true
  | x :: r => !r.contains x && nodupB r

def edgesOk : Nat → List Oper → Bool
  | _, [] => true
  | j, o :: r => o.after.toList.all (fun ed => !Region.binds .any ed || decide (ed.on < j)) && edgesOk (j + 1) r

def planOk (P : Program) (N : Nat) (ops : Array Oper) (plan : Plan) : Bool :=
  let ms := masks ops.toList []
  edgesOk 0 ops.toList && nodupB (plan.map (·.1)) && plan.all (fun q => chkI P N ops q.1 q.2.1) && (List.range ops.size).all (fun i => (plan.map (·.1)).contains i) && planGo (fun i j => (ms.getD j 0).testBit i) [] plan

theorem edgesOk_sound : ∀ (l : List Oper) (j : Nat), edgesOk j l = true → ∀ i o, l[i]? = some o → ∀ ed ∈ o.after, Region.binds .any ed = true → ed.on < j + i := by
  intro l
  induction l with
  | nil => intro j _ i o hi; simp at hi
  | cons o' l ih =>
    intro j h i o hi ed hed hb
    unfold edgesOk at h
    rw [Bool.and_eq_true] at h
    cases i with
    | zero =>
      simp only [List.getElem?_cons_zero, Option.some.injEq] at hi; subst hi
      have := List.all_eq_true.1 h.1 ed (by simpa using hed)
      simpa [hb] using this
    | succ i =>
      have := ih (j + 1) h.2 i o (by simpa using hi) ed hed hb
      omega

theorem nodupB_sound : ∀ (l : List Nat), nodupB l = true → ∀ (p q : Nat) (x : Nat), l[p]? = some x → l[q]? = some x → p = q := by
  intro l
  induction l with
  | nil => intro _ p q x h; simp at h
  | cons a l ih =>
    intro h p q x hp hq
    simp only [nodupB, Bool.and_eq_true, Bool.not_eq_true', List.contains_eq_mem, decide_eq_false_iff_not] at h
    cases p with
    | zero =>
      cases q with
      | zero => rfl
      | succ q =>
        simp only [List.getElem?_cons_zero, List.getElem?_cons_succ, Option.some.injEq] at hp hq
        subst hp
        exact absurd (List.mem_of_getElem? hq) h.1
    | succ p =>
      cases q with
      | zero =>
        simp only [List.getElem?_cons_zero, List.getElem?_cons_succ, Option.some.injEq] at hp hq
        subst hq
        exact absurd (List.mem_of_getElem? hp) h.1
      | succ q => rw [ih h.2 p q x (by simpa using hp) (by simpa using hq)]

theorem planGo_sound {anc : Nat → Nat → Bool} : ∀ (rest pre : Plan), planGo anc pre rest = true → ∀ p t, rest[p]? = some t → entryOk anc (pre ++ rest.take p) t (rest.drop (p + 1)) = true := by
  intro rest
  induction rest with
  | nil => intro pre _ p t h; simp at h
  | cons a rest ih =>
    intro pre h p t hp
    simp only [planGo, Bool.and_eq_true] at h
    cases p with
    | zero =>
      simp only [List.getElem?_cons_zero, Option.some.injEq] at hp; subst hp
      simpa using h.1
    | succ p =>
      have := ih _ h.2 p t (by simpa using hp)
      simpa using this

/-- What a plan's fitness says, by places. -/
structure PlanS (P : Program) (N : Nat) (ops : Array Oper) (plan : Plan) : Prop where
  on : ∀ j o, ops[j]? = some o → ∀ ed ∈ o.after, Region.binds .any ed = true → ed.on < j
  inj : ∀ (p q : Nat) (s t : Nat × RI × Nat), plan[p]? = some s → plan[q]? = some t → s.1 = t.1 → p = q
  chk : ∀ (p : Nat) (t : Nat × RI × Nat), plan[p]? = some t → chkI P N ops t.1 t.2.1 = true
  all : ∀ i, i < ops.size → ∃ (p : Nat) (t : Nat × RI × Nat), plan[p]? = some t ∧ t.1 = i
  anc1 : ∀ (p q : Nat) (s t : Nat × RI × Nat), plan[p]? = some t → plan[q]? = some s → s.2.1.isAc = true → cnt (plan.take q) < cnt (plan.take p) - t.2.2 → Anc ops s.1 t.1
  ancA : ∀ (p : Nat) (t : Nat × RI × Nat), plan[p]? = some t → t.2.1.isAc = true → t.2.2 = 0
  anc2 : ∀ (p q : Nat) (s t : Nat × RI × Nat), plan[p]? = some t → plan[q]? = some s → s.2.1.isAc = true → p < q → Anc ops t.1 s.1
  dst : ∀ (p q : Nat) (s t : Nat × RI × Nat) (d : Nat), plan[p]? = some t → plan[q]? = some s → t.2.1.dst = some d → s.2.1.dst = some d → p = q
  slots : ∀ (p : Nat) (t : Nat × RI × Nat), plan[p]? = some t → ∀ s ∈ t.2.1.slots, (∃ (q : Nat) (t' : Nat × RI × Nat), q < p ∧ plan[q]? = some t' ∧ t'.2.1.dst = some s ∧ Anc ops t'.1 t.1) ∨
    ((∀ (q : Nat) (t' : Nat × RI × Nat), q < p → plan[q]? = some t' → t'.2.1.dst ≠ some s) ∧ ∀ (q : Nat) (t' : Nat × RI × Nat), plan[q]? = some t' → t'.2.1.dst = some s → q = p ∨ Anc ops t.1 t'.1)

theorem mem_take_of {α : Type} {X Y : List α} {a : α} {n : Nat} (h : X.length < n) : a ∈ (X ++ a :: Y).take n := by
  rw [List.take_append]
  have : n - X.length = (n - X.length - 1) + 1 := by omega
  rw [this, List.take_succ_cons]
  simp

theorem take_split {α : Type} {l : List α} {p q : Nat} {a : α} (hq : q < p) (h : l[q]? = some a) : ∃ Y, l.take p = l.take q ++ a :: Y := by
  have hlt : q < l.length := (List.getElem?_eq_some_iff.1 h).1
  have hg : l[q] = a := (List.getElem?_eq_some_iff.1 h).2
  refine ⟨(l.take p).drop (q + 1), ?_⟩
  have h1 : (l.take p).take q = l.take q := by rw [List.take_take]; congr 1; omega
  have h2 : (l.take p).drop q = a :: (l.take p).drop (q + 1) := by
    rw [List.drop_eq_getElem_cons (by simp; omega)]
    simp [hg]
  calc l.take p = (l.take p).take q ++ (l.take p).drop q := (List.take_append_drop _ _).symm
    _ = _ := by rw [h1, h2]

theorem planOk_sound {P : Program} {N : Nat} {ops : Array Oper} {plan : Plan} (h : planOk P N ops plan = true) : PlanS P N ops plan := by
  unfold planOk at h
  simp only [Bool.and_eq_true] at h
  obtain ⟨⟨⟨⟨hon, hnd⟩, hchk⟩, hall⟩, hgo⟩ := h
  have hanc : ∀ i j, ((masks ops.toList []).getD j 0).testBit i = true → Anc ops i j := fun i j h => masks_sound ops.toList [] [] rfl rfl (fun j b hb => by simp at hb) j i h
  have hinj : ∀ (p q : Nat) (s t : Nat × RI × Nat), plan[p]? = some s → plan[q]? = some t → s.1 = t.1 → p = q := by
    intro p q s t hp hq he
    exact nodupB_sound _ hnd p q s.1 (by simp [hp]) (by simp [hq, he])
  have hent := planGo_sound plan [] hgo
  simp only [List.nil_append] at hent
  have mem_take : ∀ {p q : Nat} {t : Nat × RI × Nat}, q < p → plan[q]? = some t → t ∈ plan.take p := fun hq ht => by
    obtain ⟨Y, hY⟩ := take_split hq ht
    rw [hY]; simp
  have mem_drop : ∀ {p q : Nat} {t : Nat × RI × Nat}, p < q → plan[q]? = some t → t ∈ plan.drop (p + 1) := fun {p q t} hq ht => by
    refine List.mem_of_getElem? (i := q - (p + 1)) ?_
    rw [List.getElem?_drop, ← ht]; congr 1; omega
  refine ⟨fun j o ho ed hed hb => ?_, hinj, fun p t ht => List.all_eq_true.1 hchk t (List.mem_of_getElem? ht), ?_, ?_, ?_, ?_, ?_, ?_⟩
  · have := edgesOk_sound ops.toList 0 hon j o (by simpa using ho) ed hed hb
    omega
  · intro i hi
    have := List.all_eq_true.1 hall i (List.mem_range.2 hi)
    simp only [List.contains_eq_mem, decide_eq_true_eq] at this
    obtain ⟨t, ht, he⟩ := List.mem_map.1 this
    obtain ⟨p, hp⟩ := List.getElem?_of_mem ht
    exact ⟨p, t, hp, he⟩
  · intro p q s t ht hs hac hlt
    have hqp : q < p := by
      refine Nat.not_le.1 fun hle => ?_
      have : cnt (plan.take p) ≤ cnt (plan.take q) := by
        have : plan.take p = (plan.take q).take p := by rw [List.take_take]; congr 1; omega
        unfold cnt
        rw [this]
        exact ((List.take_sublist _ _).filter _).length_le
      omega
    have := hent p t ht
    unfold entryOk at this
    simp only [Bool.and_eq_true] at this
    have h1 := List.all_eq_true.1 this.1.1.1.1 s
    refine hanc _ _ (h1 ?_)
    obtain ⟨Y, hY⟩ := take_split hqp hs
    have hf : (plan.take p).filter (fun q => q.2.1.isAc) = (plan.take q).filter (fun q => q.2.1.isAc) ++ s :: Y.filter (fun q => q.2.1.isAc) := by
      rw [hY, List.filter_append, List.filter_cons]
      simp only [hac, if_true]
    rw [hf]
    exact mem_take_of (by exact hlt)
  · intro p t ht hac
    have := hent p t ht
    unfold entryOk at this
    simp only [Bool.and_eq_true] at this
    have := this.1.1.1.2
    rw [hac] at this
    simpa using this
  · intro p q s t ht hs hac hpq
    have := hent p t ht
    unfold entryOk at this
    simp only [Bool.and_eq_true] at this
    have h1 := List.all_eq_true.1 this.1.1.2 s (mem_drop hpq hs)
    rw [hac] at h1
    exact hanc _ _ (by simpa using h1)
  · have key : ∀ (p q : Nat) (s t : Nat × RI × Nat) (d : Nat), plan[p]? = some t → plan[q]? = some s → t.2.1.dst = some d → s.2.1.dst = some d → ¬ q < p := by
      intro p q s t d ht hs hd hd' hlt
      have := hent p t ht
      unfold entryOk at this
      simp only [Bool.and_eq_true] at this
      have h1 := this.1.2
      rw [hd] at h1
      simp only at h1
      have := List.all_eq_true.1 h1 s (mem_take hlt hs)
      rw [hd'] at this
      simp at this
    intro p q s t d ht hs hd hd'
    have h1 := key p q s t d ht hs hd hd'
    have h2 := key q p t s d hs ht hd' hd
    omega
  · intro p t ht s hs
    have := hent p t ht
    unfold entryOk at this
    simp only [Bool.and_eq_true] at this
    have h1 := List.all_eq_true.1 this.2 s hs
    rw [Bool.or_eq_true] at h1
    rcases h1 with h1 | h1
    · obtain ⟨t', ht', h2⟩ := List.any_eq_true.1 h1
      simp only [Bool.and_eq_true, beq_iff_eq] at h2
      obtain ⟨q, hq⟩ := List.getElem?_of_mem ht'
      have hqp : q < p := by
        have := (List.getElem?_eq_some_iff.1 hq).1
        simp at this; omega
      rw [List.getElem?_take, if_pos hqp] at hq
      exact .inl ⟨q, t', hqp, hq, h2.1, hanc _ _ h2.2⟩
    · rw [Bool.and_eq_true] at h1
      refine .inr ⟨fun q t' hq ht' hd => ?_, fun q t' ht' hd => ?_⟩
      · have := List.all_eq_true.1 h1.1 t' (mem_take hq ht')
        rw [hd] at this; simp at this
      · rcases Nat.lt_trichotomy q p with h | h | h
        · have := List.all_eq_true.1 h1.1 t' (mem_take h ht')
          rw [hd] at this; simp at this
        · exact .inl h
        · have := List.all_eq_true.1 h1.2 t' (mem_drop h ht')
          rw [hd] at this
          exact .inr (hanc _ _ (by simpa using this))

end Go.AM
