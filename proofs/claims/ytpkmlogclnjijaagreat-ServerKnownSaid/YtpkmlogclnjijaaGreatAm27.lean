import Derived.Test.YtpkmlogclnjijaaGreatAm26
set_option linter.unusedVariables false
namespace Go.AM

theorem rev_suffix {α : Type} {L L' : List α} (h : L' <:+ L) {k : Nat} (hk : k < L'.length) : L.reverse[k]? = L'.reverse[k]? := by
  obtain ⟨A, rfl⟩ := h
  rw [List.reverse_append, List.getElem?_append_left (by simpa using hk)]

theorem cnt_le {l : Plan} {p : Nat} : cnt (l.take p) ≤ cnt l := ((List.take_sublist _ _).filter _).length_le

theorem cnt_lt {l : Plan} {p : Nat} {t : Nat × RI × Nat} (h : l[p]? = some t) (hac : t.2.1.isAc = true) : cnt (l.take p) < cnt l := by
  have : l = l.take p ++ t :: l.drop (p + 1) := by
    have hlt := (List.getElem?_eq_some_iff.1 h).1
    have hg := (List.getElem?_eq_some_iff.1 h).2
    rw [← hg, ← List.drop_eq_getElem_cons hlt, List.take_append_drop]
  have h2 : cnt l = cnt (l.take p ++ t :: l.drop (p + 1)) := by rw [← this]
  rw [h2]
  unfold cnt
  rw [List.filter_append, List.filter_cons]
  simp only [hac, if_true, List.length_append, List.length_cons]
  omega

theorem cnt_lt2 {l : Plan} {p q : Nat} {t : Nat × RI × Nat} (h : l[p]? = some t) (hac : t.2.1.isAc = true) (hpq : p < q) : cnt (l.take p) < cnt (l.take q) := by
  have h1 : (l.take q)[p]? = some t := by rw [List.getElem?_take, if_pos hpq]; exact h
  have := cnt_lt h1 hac
  rwa [List.take_take, Nat.min_eq_left (by omega)] at this

theorem cnt_ex : ∀ (l : Plan) (k : Nat), k < cnt l → ∃ (p : Nat) (t : Nat × RI × Nat), l[p]? = some t ∧ t.2.1.isAc = true ∧ cnt (l.take p) = k := by
  intro l
  induction l with
  | nil => intro k hk; simp [cnt] at hk
  | cons a l ih =>
    obtain ⟨i, r, u⟩ := a
    intro k hk
    rw [cnt_cons] at hk
    cases hac : r.isAc with
    | true =>
      cases k with
      | zero => exact ⟨0, _, rfl, hac, by simp [cnt]⟩
      | succ k =>
        obtain ⟨p, t, hp, hc, h⟩ := ih k (by rw [hac] at hk; simp at hk; omega)
        exact ⟨p + 1, t, by simpa using hp, hc, by rw [List.take_succ_cons, cnt_cons, h, hac]; simp⟩
    | false =>
      obtain ⟨p, t, hp, hc, h⟩ := ih k (by rw [hac] at hk; simpa using hk)
      exact ⟨p + 1, t, by simpa using hp, hc, by rw [List.take_succ_cons, cnt_cons, h, hac]; simp⟩

section
variable {P : Program} {F : CallT}

theorem canon_of (hF : FSound P F) {N : Nat} {ops : Array Oper} {plan : Plan} {e0 e1 : Env} {st0 st1 : St} {x : X} (hplan : planOk P N ops plan = true) (hev : evDraw P F plan e0 st0 = some (x, e1, st1)) (hfresh : ∀ y, st0.nx ≤ y → y < st1.nx → st0.H y = none) :
    Nonempty (Canon P F N ops e0 st0 x e1 st1) := by
  have S := planOk_sound hplan
  obtain ⟨tr, h1, o1, L⟩ := live_trace hF _ _ _ _ _ _ _ _ hev
  have hshape := L.shape
  have hlen : tr.length = plan.length := by rw [← hshape]; simp
  have at_plan : ∀ (p : Nat) (t : TE), tr[p]? = some t → plan[p]? = some (t.i, t.r, t.u) := by
    intro p t ht; rw [← hshape]; simp [ht]
  have hex : ∀ i, ∃ (p : Nat) (t : TE), i < ops.size → tr[p]? = some t ∧ t.i = i := by
    intro i
    by_cases hi : i < ops.size
    · obtain ⟨p, t, hp, he⟩ := S.all i hi
      rw [← hshape, List.getElem?_map, Option.map_eq_some_iff] at hp
      obtain ⟨t', ht', h⟩ := hp
      exact ⟨p, t', fun _ => ⟨ht', by rw [← he, ← h]⟩⟩
    · exact ⟨0, ⟨0, ⟨none, none, .q (.mov .nilp)⟩, 0, 0, [], st0, st0.H, [], .skip⟩, fun h => absurd h hi⟩
  obtain ⟨pos, hex⟩ := Classical.axiomOfChoice hex
  obtain ⟨T, hT⟩ := Classical.axiomOfChoice hex
  have hpt : ∀ i, i < ops.size → tr[pos i]? = some (T i) := fun i hi => (hT i hi).1
  have hTi : ∀ i, i < ops.size → (T i).i = i := fun i hi => (hT i hi).2
  have hpp : ∀ i, i < ops.size → plan[pos i]? = some (i, (T i).r, (T i).u) := fun i hi => by have := at_plan _ _ (hpt i hi); rwa [hTi i hi] at this
  have hmem : ∀ i, i < ops.size → T i ∈ tr := fun i hi => List.mem_of_getElem? (hpt i hi)
  have lt_size : ∀ (p : Nat) (t : Nat × RI × Nat), plan[p]? = some t → t.1 < ops.size := by
    intro p t ht
    obtain ⟨o, ho, _⟩ := chkI_spec (S.chk p t ht)
    exact (Array.getElem?_eq_some_iff.1 ho).1
  have pos_of : ∀ (p : Nat) (t : TE), tr[p]? = some t → t.i < ops.size ∧ pos t.i = p ∧ T t.i = t := by
    intro p t ht
    have h1 := at_plan p t ht
    have hi := lt_size _ _ h1
    have h2 : pos t.i = p := S.inj _ _ _ _ (hpp _ hi) h1 rfl
    refine ⟨hi, h2, ?_⟩
    have := hpt _ hi
    rw [h2, ht] at this
    exact (Option.some.inj this).symm
  have hK : ∀ i, i < ops.size → (T i).k = cnt (plan.take (pos i)) := fun i hi => by rw [L.count.1 _ _ (hpt i hi)]; simp
  have hkind : ∀ i, i < ops.size → Kd P F (T i) x e1 st1 h1 o1 := fun i hi => (L.kind.1 _ (hmem i hi)).2
  have hok : ∀ i, i < ops.size → (T i).ok P F := fun i hi => (L.kind.1 _ (hmem i hi)).1
  have hnx := L.nx
  have hpw : ∀ i j, i < ops.size → j < ops.size → pos i < pos j → (T i).top ≤ (T j).s.nx := by
    intro i j hi hj hlt
    have := List.pairwise_iff_getElem.1 hnx.2.2 (pos i) (pos j) (List.getElem?_eq_some_iff.1 (hpt i hi)).1 (List.getElem?_eq_some_iff.1 (hpt j hj)).1 hlt
    rw [(List.getElem?_eq_some_iff.1 (hpt i hi)).2, (List.getElem?_eq_some_iff.1 (hpt j hj)).2] at this
    exact this
  have hposne : ∀ i j, i < ops.size → j < ops.size → i ≠ j → pos i ≠ pos j := by
    intro i j hi hj hne he
    have h1 := hpt i hi
    rw [he, hpt j hj] at h1
    have := Option.some.inj h1
    exact hne (by rw [← hTi i hi, ← hTi j hj, this])
  -- memories
  have suf : ∀ i, i < ops.size → ((T i).h :: (T i).old) <:+ (h1 :: o1) := by
    intro i hi
    cases hkind i hi with
    | live hs _ hsuf =>
      rcases hs.mem with ⟨_, _, h, _⟩ | ⟨_, _, h, h', _⟩
      · rw [h] at hsuf; exact (List.suffix_cons _ _).trans hsuf
      · rw [h, h'] at hsuf; exact hsuf
    | pan _ _ _ hh ho => rw [hh, ho]; exact List.suffix_refl _
    | deadS _ _ _ hh ho => rw [hh, ho]; exact List.suffix_refl _
    | deadD _ _ hh ho => rw [hh, ho]; exact List.suffix_refl _
  let M : Nat → Mem := fun k => ((h1 :: o1).reverse[k]?).getD (fun _ => none)
  have hM : ∀ (L' : List Mem) (k : Nat) (m : Mem), L' <:+ (h1 :: o1) → k < L'.length → L'.reverse[k]? = some m → M k = m := by
    intro L' k m hs hk hm
    show ((h1 :: o1).reverse[k]?).getD _ = m
    rw [rev_suffix hs hk, hm]; rfl
  have hMmem : ∀ (L' : List Mem) (k : Nat), L' <:+ (h1 :: o1) → k < L'.length → L'[L'.length - 1 - k]? = some (M k) := by
    intro L' k hs hk
    have h1 : L'.reverse[k]? = L'[L'.length - 1 - k]? := by rw [List.getElem?_reverse hk]
    cases hc : L'[L'.length - 1 - k]? with
    | none => rw [List.getElem?_eq_none_iff] at hc; omega
    | some m => rw [hM L' k m hs hk (h1.trans hc)]
  have hMK : ∀ i, i < ops.size → (T i).dm = 0 → M (T i).k = (T i).h := by
    intro i hi hdm
    refine hM _ _ _ (suf i hi) (by simp [TE.k, hdm]) ?_
    simp [TE.k, hdm, List.reverse_cons]
  have hMKs : ∀ i, i < ops.size → ∀ h', (h' :: (T i).h :: (T i).old) <:+ (h1 :: o1) → (T i).dm = 0 → M ((T i).k + 1) = h' ∧ (T i).k < o1.length := by
    intro i hi h' hs hdm
    constructor
    · refine hM _ _ _ hs (by simp [TE.k, hdm]) ?_
      have : (T i).k + 1 = ((T i).h :: (T i).old).reverse.length := by simp [TE.k, hdm]
      rw [this, List.reverse_cons, List.getElem?_concat_length]
    · have := hs.length_le
      simp [TE.k, hdm] at this ⊢; omega
  have hvalnd : ∀ i, i < ops.size → (T i).res ≠ .desc → (T i).r.isAc = true → (T i).dm = 0 := by
    intro i hi hnd hac
    cases hkind i hi with
    | live _ h _ => exact h
    | pan _ _ h => exact h
    | deadS _ h => rw [hac] at h; simp at h
    | deadD h => exact absurd h hnd
  have hsub := (L.sub (fun _ _ => False) (fun y B hy => .inl hy))
  have hdeadK : ∀ i, i < ops.size → 0 < (T i).dm → (T i).old = o1 := by
    intro i hi hd
    cases hkind i hi with
    | live _ h _ => omega
    | pan _ _ h => omega
    | deadS _ _ _ _ h => exact h
    | deadD _ _ _ h => exact h
  have hpanK : ∀ i, i < ops.size → ∀ v st', (T i).res = .pan v st' → (T i).r.isAc = true ∧ (T i).k = o1.length ∧ x = .pan v ∧ e1 = [] ∧ st'.H = st1.H := by
    intro i hi v st' hp
    cases hkind i hi with
    | live hs _ _ => have := hs.val; rw [hp] at this; simp [Res.val] at this
    | pan hr hac hdm hh ho hx he hH =>
      rw [hp] at hr
      simp only [Res.pan.injEq] at hr
      obtain ⟨rfl, rfl⟩ := hr
      exact ⟨hac, by simp [TE.k, hdm, ho], hx, he, hH⟩
    | deadS hs _ => have := hs.val; rw [hp] at this; simp [Res.val] at this
    | deadD hd => rw [hp] at hd; cases hd
  have anc1 : ∀ i j, i < ops.size → j < ops.size → (T j).r.isAc = true → (T j).k < (T i).k - (T i).u → Anc ops j i := by
    intro i j hi hj hac hlt
    rw [hK i hi, hK j hj] at hlt
    exact S.anc1 _ _ _ _ (hpp i hi) (hpp j hj) hac hlt
  refine ⟨{ R := fun i => (T i).r, K := fun i => (T i).k, U := fun i => (T i).u, E := fun i => (T i).e, S := fun i => (T i).s, res := fun i => (T i).res, M := M, J := o1.length, total := cnt plan, hchk := fun i hi => S.chk _ _ (hpp i hi), hM0 := ?_, hnx := hnx.1, kex := ?_, klt := ?_, kle := ?_, kinj := ?_, jle := ?_, anc1 := anc1, anc2 := ?_, ancA := ?_, slots := ?_, dinj := ?_, done := ?_, sub := ?_, apart := ?_, apart2 := ?_, fin := ?_ }⟩
  · exact hM [st0.H] 0 st0.H L.mems (by simp) (by simp)
  · intro k hk
    obtain ⟨p, t, hp, hac, hc⟩ := cnt_ex plan k hk
    have hi := lt_size p t hp
    have hpos : pos t.1 = p := S.inj _ _ _ _ (hpp _ hi) hp rfl
    have h2 := hpp _ hi
    rw [hpos, hp] at h2
    have h3 := Option.some.inj h2
    refine ⟨t.1, hi, ?_, by rw [hK _ hi, hpos]; exact hc⟩
    have h4 : t.2.1 = (T t.1).r := by rw [h3]
    rw [← h4]; exact hac
  · intro i hi hac
    rw [hK i hi]
    exact cnt_lt (hpp i hi) hac
  · intro i hi
    rw [hK i hi]; exact cnt_le
  · intro i j hi hj hci hcj hk
    rw [hK i hi, hK j hj] at hk
    refine Decidable.byContradiction fun hne => ?_
    rcases Nat.lt_or_gt_of_ne (hposne i j hi hj hne) with h | h
    · have := cnt_lt2 (hpp i hi) hci h; omega
    · have := cnt_lt2 (hpp j hj) hcj h; omega
  · by_cases hx : x = .norm
    · have := L.count.2 hx; simp at this; omega
    · obtain ⟨t, ht, v, st', hp⟩ := L.kind.2 hx
      obtain ⟨p, hp'⟩ := List.getElem?_of_mem ht
      obtain ⟨hi, _, hTt⟩ := pos_of p t hp'
      have h := hpanK t.i hi v st' (by rw [hTt]; exact hp)
      rw [← h.2.1, hK _ hi]; exact cnt_le
  · intro i j hi hj hac hle hne
    rw [hK i hi, hK j hj] at hle
    refine S.anc2 _ _ _ _ (hpp i hi) (hpp j hj) hac ?_
    rcases Nat.lt_or_gt_of_ne (hposne i j hi hj hne) with h | h
    · exact h
    · have := cnt_lt2 (hpp j hj) hac h; omega
  · intro i hi hac
    exact S.ancA _ _ (hpp i hi) hac
  · intro i hi _ s hs
    have henv := L.env.1 _ _ (hpt i hi)
    rcases S.slots _ _ (hpp i hi) s hs with ⟨q, t', hq, ht', hd, ha⟩ | ⟨hno, hlater⟩
    · have hj := lt_size _ _ ht'
      have hpos : pos t'.1 = q := S.inj _ _ _ _ (hpp _ hj) ht' rfl
      have h2 := hpp _ hj
      rw [hpos, ht'] at h2
      have h3 := Option.some.inj h2
      have h4 : t'.2.1 = (T t'.1).r := by rw [h3]
      refine .inl ⟨t'.1, hj, by rw [← h4]; exact hd, ha, fun v hv => ?_⟩
      rcases henv s v hv with ⟨q2, t2, hq2, ht2, hd2, hr2⟩ | ⟨hno, _⟩
      · have := S.dst _ _ _ _ s (at_plan _ _ ht2) ht' hd2 hd
        subst this
        obtain ⟨hi2, hp2, hT2⟩ := pos_of _ _ ht2
        have : T t'.1 = t2 := by
          have h5 := hpt _ hj
          rw [hpos, ht2] at h5
          exact (Option.some.inj h5).symm
        rw [this]; exact hr2
      · exact absurd (by rw [← h4]; exact hd) (hno q (T t'.1) hq (by rw [← hpos]; exact hpt _ hj))
    · refine .inr ⟨fun j hj hd => ?_, fun v hv => ?_⟩
      · rcases hlater (pos j) _ (hpp j hj) hd with h | h
        · left
          refine Decidable.byContradiction fun hne => ?_
          exact hposne j i hj hi hne h
        · exact .inr h
      · rcases henv s v hv with ⟨q2, t2, hq2, ht2, hd2, _⟩ | ⟨_, h0⟩
        · exact absurd hd2 (hno q2 _ hq2 (at_plan _ _ ht2))
        · exact h0
  · intro i j s hi hj hdi hdj
    have := S.dst _ _ _ _ s (hpp i hi) (hpp j hj) hdi hdj
    refine Decidable.byContradiction fun hne => ?_
    exact hposne i j hi hj hne this
  · intro i hi
    have ok := hok i hi
    have kd := hkind i hi
    have hn := hnx.2.1 _ (hmem i hi)
    unfold TE.ok at ok
    cases hres : (T i).res with
    | skip =>
      rw [hres] at ok
      refine ⟨ok, fun hac => ?_⟩
      have hdm := hvalnd i hi (by rw [hres]; simp) hac
      cases kd with
      | live hs _ hsuf =>
        rcases hs.mem with ⟨_, hh, hold, _, _, hr⟩ | ⟨h, _⟩
        · rw [hold] at hsuf
          obtain ⟨a1, a2⟩ := hMKs i hi _ hsuf hdm
          refine ⟨?_, a2⟩
          rw [a1, hh]
          rcases hr with ⟨_, h⟩ | h
          · rw [h]
          · rw [hres] at h; cases h
        · rw [hac] at h; simp at h
      | pan h => rw [hres] at h; cases h
      | deadS _ _ h => omega
      | deadD h => rw [hres] at h; cases h
    | q v => rw [hres] at ok; exact ok
    | rd v =>
      rw [hres] at ok
      obtain ⟨hw, q, hq, hall⟩ := ok
      refine ⟨hw, q, hq, fun k hk1 hk2 hkJ => hall _ ?_⟩
      have hdu : (T i).dm ≤ (T i).u := by
        have hnac : (T i).r.isAc = false := by simp [RI.isAc, hq]
        cases kd with
        | live hs h _ => omega
        | pan h => rw [hres] at h; cases h
        | deadS hs _ =>
          rcases hs.mem with ⟨h, _⟩ | ⟨_, h, _⟩
          · rw [hnac] at h; simp at h
          · exact h
        | deadD h => rw [hres] at h; cases h
      have hkl : k ≤ (T i).old.length := by
        by_cases hd : (T i).dm = 0
        · simp only [TE.k, hd] at hk2; omega
        · rw [hdeadK i hi (by omega)]; exact hkJ
      have hget := hMmem _ k (suf i hi) (by simp; omega)
      simp only [List.length_cons, Nat.add_sub_cancel] at hget
      simp only [TE.k] at hk1
      have : ((T i).h :: (T i).old.take ((T i).u - (T i).dm))[(T i).old.length - k]? = some (M k) := by
        rw [← hget, ← List.take_succ_cons, List.getElem?_take, if_pos (by omega)]
      exact List.mem_of_getElem? this
    | al v B =>
      rw [hres] at ok
      have htop : (T i).s.nx + 1 ≤ st1.nx := by have := hn.2.2; simp only [TE.top, hres] at this; exact this
      refine ⟨ok.1, ok.2, hn.1, by omega, fun k hk => ?_⟩
      by_cases hkJ : k ≤ (T i).old.length
      · have hget := hMmem _ k (suf i hi) (by simp; omega)
        exact L.fresh st1.nx hfresh (fun m hm y a b => by simp only [List.mem_singleton] at hm; subst hm; exact hfresh y a b) _ (hmem i hi) _ (List.mem_of_getElem? hget) _ (Nat.le_refl _) (by omega)
      · have hd : 0 < (T i).dm := by
          simp only [TE.k] at hk
          omega
        rw [hdeadK i hi hd] at hkJ
        show (((h1 :: o1).reverse[k]?).getD (fun _ => none)) _ = none
        rw [List.getElem?_eq_none (by simp; omega)]
        rfl
    | ac v st' =>
      rw [hres] at ok
      have hac : (T i).r.isAc = true := by obtain ⟨_, q, hq, _⟩ := ok; simp [RI.isAc, hq]
      have hdm := hvalnd i hi (by rw [hres]; simp) hac
      have htop : st'.nx ≤ st1.nx := by have := hn.2.2; simp only [TE.top, hres] at this; exact this
      have hle : (T i).s.nx ≤ st'.nx := by have := hn.2.1; simp only [TE.top, hres] at this; exact this
      cases kd with
      | live hs _ hsuf =>
        rcases hs.mem with ⟨_, hh, hold, _, _, hr⟩ | ⟨h, _⟩
        · rw [hold] at hsuf
          obtain ⟨a1, a2⟩ := hMKs i hi _ hsuf hdm
          refine ⟨ok.1, ok.2, ?_, a2, hn.1, hle, htop⟩
          rw [a1, hh]
          rcases hr with ⟨h, _⟩ | h
          · rw [hres] at h; cases h
          · rw [hres] at h
            simp only [Res.ac.injEq] at h
            rw [h.2]
        · rw [hac] at h; simp at h
      | pan h => rw [hres] at h; cases h
      | deadS _ _ h => omega
      | deadD h => rw [hres] at h; cases h
    | pan v st' =>
      rw [hres] at ok
      have htop : st'.nx ≤ st1.nx := by have := hn.2.2; simp only [TE.top, hres] at this; exact this
      obtain ⟨_, a2, a3, a4, a5⟩ := hpanK i hi v st' hres
      exact ⟨ok.1, ok.2, a2, a3, a5, htop, a4, hn.1⟩
    | desc =>
      rw [hres] at ok
      cases kd with
      | live hs _ => have := hs.val; rw [hres] at this; simp [Res.val] at this
      | pan h => rw [hres] at h; cases h
      | deadS hs _ => have := hs.val; rw [hres] at this; simp [Res.val] at this
      | deadD _ hd hh ho hx =>
        obtain ⟨t, ht, v, st', hp⟩ := L.kind.2 hx
        obtain ⟨p, hp'⟩ := List.getElem?_of_mem ht
        obtain ⟨hj, _, hTt⟩ := pos_of p t hp'
        have hr : (T t.i).res = .pan v st' := by rw [hTt]; exact hp
        have hk := hpanK t.i hj v st' hr
        refine ⟨t.i, hj, ⟨v, st', hr⟩, .inr (anc1 i t.i hi hj hk.1 ?_)⟩
        have hki : (T i).k = o1.length + (T i).dm := by simp [TE.k, ho]
        rw [hk.2.1, hki]
        rcases ok with hac | hu
        · have : (T i).u = 0 := S.ancA _ _ (hpp i hi) hac
          omega
        · omega
  · intro i hi hac hnd y B hy
    have hdm := hvalnd i hi hnd hac
    show M (T i).k y = _ ∨ _
    rw [hMK i hi hdm]
    rcases hsub.1 (pos i) (T i) (hpt i hi) hdm y B hy with h | h | ⟨q, t', v, hq, ht', hl, hd', hn', hr'⟩
    · exact .inl h
    · exact h.2.elim
    · obtain ⟨hj, hp', hT'⟩ := pos_of q t' ht'
      refine .inr ⟨t'.i, hj, ?_, ?_, ?_, v, ?_⟩
      · rw [hT']; simp only [TE.k, hl, hd', hdm]
      · intro he; rw [he] at hp'; omega
      · rw [hT']; exact hn'
      · rw [hT']; exact hr'
  · intro i j hi hj hne v B hres
    have ht : (T i).top = (T i).s.nx + 1 := by simp only [TE.top, hres]
    have h1 := hnx.2.1 _ (hmem i hi)
    have h2 := hnx.2.1 _ (hmem j hj)
    refine ⟨fun v' B' hr' he => ?_, fun v' st' hr' hh => ?_⟩
    · have ht' : (T j).top = (T j).s.nx + 1 := by simp only [TE.top, hr']
      rcases Nat.lt_or_gt_of_ne (hposne i j hi hj hne) with h | h
      · have := hpw i j hi hj h; omega
      · have := hpw j i hj hi h; omega
    · have ht' : (T j).top = st'.nx := by rcases hr' with hr' | hr' <;> simp only [TE.top, hr']
      rcases Nat.lt_or_gt_of_ne (hposne i j hi hj hne) with h | h
      · have := hpw i j hi hj h; omega
      · have := hpw j i hj hi h; omega
  · intro i j hi hj hne v st' v' st'' hri hrj y hh
    have ht : (T i).top = st'.nx := by rcases hri with hr' | hr' <;> simp only [TE.top, hr']
    have ht' : (T j).top = st''.nx := by rcases hrj with hr' | hr' <;> simp only [TE.top, hr']
    rcases Nat.lt_or_gt_of_ne (hposne i j hi hj hne) with h | h
    · have := hpw i j hi hj h; omega
    · have := hpw j i hj hi h; omega
  · by_cases hx : x = .norm
    · left
      refine ⟨hx, by have := L.count.2 hx; simpa using this, ?_, ?_, ?_⟩
      · intro i hi v st' hp
        have := (hpanK i hi v st' hp).2.2.1
        rw [hx] at this; cases this
      · intro y B hy
        have hMJ : M o1.length = h1 := hM (h1 :: o1) _ _ (List.suffix_refl _) (by simp) (by simp)
        show M o1.length y = _ ∨ _
        rw [hMJ]
        rcases hsub.2 hx y B hy with h | h | ⟨q, t', v, ht', hl, hd', hn', hr'⟩
        · exact .inl h
        · exact h.2.elim
        · obtain ⟨hj, hp', hT'⟩ := pos_of q t' ht'
          exact .inr ⟨t'.i, hj, by simp only [hT', TE.k, hl, hd', Nat.add_zero], by simp only [hT']; exact hn', v, by simp only [hT']; exact hr'⟩
      · intro s v hv
        rcases L.env.2 hx s v hv with ⟨q, t', _, ht', hd, hr⟩ | ⟨hno, h0⟩
        · obtain ⟨hj, hp', hT'⟩ := pos_of q t' ht'
          exact .inl ⟨t'.i, hj, by simp only [hT']; exact hd, by simp only [hT']; exact hr⟩
        · refine .inr ⟨fun j hj hd => ?_, h0⟩
          exact hno (pos j) (T j) (List.getElem?_eq_some_iff.1 (hpt j hj)).1 (hpt j hj) hd
    · right
      obtain ⟨t, ht, v, st', hp⟩ := L.kind.2 hx
      obtain ⟨p, hp'⟩ := List.getElem?_of_mem ht
      obtain ⟨hj, _, hTt⟩ := pos_of p t hp'
      exact ⟨t.i, v, st', hj, by simp only [hTt]; exact hp⟩

end
end Go.AM
