import Derived.Test.YtpkmlogclnjijaaGreatAm21
set_option linter.unusedVariables false
namespace Go.AM

/-- A step on a part of memory, seen from the beginning of the region. -/
theorem Post.extend {m0 m m' : Mp} {st0 : St} {w0 w w' : World} {G H1 H2 : Mem} {nE n1 n2 : Nat} (h : Post m0 st0 w0 m ⟨G, nE⟩ w) (h' : Post m ⟨H1, n1⟩ w m' ⟨H2, n2⟩ w') (hsub : ∀ y B, H1 y = some B → G y = some B)
    (hu : Unm m n1 n2) (h0 : st0.nx ≤ n1) (hE : n2 ≤ nE) :
    Post m0 st0 w0 m' ⟨fun y => if H1 y ≠ none ∨ (n1 ≤ y ∧ y < n2) then H2 y else G y, nE⟩ w' := by
  have hle := h'.le hu
  have g2 : ∀ y B, ¬ (H1 y ≠ none ∨ (n1 ≤ y ∧ y < n2)) → G y = some B → ∃ l, m y = some l ∧ m' y = some l ∧ RelBlk m w l B ∧ w'.heap[l.blk]? = w.heap[l.blk]? ∧ ∀ z Bz lz, H1 z = some Bz → (Bz.rw = true ∨ B.rw = true) → m z = some lz → lz.blk ≠ l.blk := by
    intro y B hy hG
    obtain ⟨l, hl, hb⟩ := h.rel.blk y B hG
    have hne : ∀ z Bz lz, H1 z = some Bz → (Bz.rw = true ∨ B.rw = true) → m z = some lz → lz.blk ≠ l.blk := by
      intro z Bz lz hz hrr hlz he
      have := h.rel.inj z y Bz B lz l (hsub z Bz hz) hG hlz hl hrr he
      subst this
      exact hy (.inl (by rw [hz]; simp))
    exact ⟨l, hl, hle y l hl, hb, h'.fr _ hb.lt fun z Bz lz hz hzr hlz => hne z Bz lz hz (.inl hzr) hlz, hne⟩
  refine ⟨⟨?_, ?_⟩, ?_, Nat.le_trans h.size h'.size, ?_, ?_, ?_, h.ws.trans h'.ws, h.nx, ?_⟩
  · intro y B hy
    simp only at hy
    split at hy
    · exact h'.rel.blk y B hy
    · rename_i hn
      obtain ⟨l, hl, hl', hb, hw, _⟩ := g2 y B hn hy
      exact ⟨l, hl', hb.mono hle hw⟩
  · intro i j Bi Bj li lj hi hj hli hlj hrr he
    simp only at hi hj
    have cross : ∀ {i j : Nat} {Bi Bj : Blk} {li lj : Loc}, H2 i = some Bi → ¬ (H1 j ≠ none ∨ (n1 ≤ j ∧ j < n2)) → G j = some Bj → m' i = some li → m' j = some lj → (Bi.rw = true ∨ Bj.rw = true) → li.blk = lj.blk → False := by
      intro i j Bi Bj li lj hi hn hj hli hlj hrr he
      obtain ⟨l, hl, hl', hb, _, hne⟩ := g2 j Bj hn hj
      rw [hl'] at hlj; simp only [Option.some.injEq] at hlj; subst hlj
      cases hri : Bi.rw with
      | true =>
        rcases h'.own i Bi li hi hri hli with h1 | ⟨z, Bz, lz, hz, hzr, hlz, hbz⟩
        · have := hb.lt; omega
        · exact hne z Bz lz hz (.inl hzr) hlz (by omega)
      | false =>
        rw [hri] at hrr
        cases Bi with
        | tree => simp [Blk.rw] at hri
        | amap => simp [Blk.rw] at hri
        | ro t =>
          have h1 := h'.ro i t hi
          obtain ⟨l2, hl2, _⟩ := h.rel.blk i _ (hsub i _ h1)
          have h3 := hle i l2 hl2
          rw [h3] at hli; simp only [Option.some.injEq] at hli; subst hli
          exact hne i _ l2 h1 (.inr (by simpa using hrr)) hl2 he
    split at hi <;> split at hj
    · exact h'.rel.inj i j Bi Bj li lj hi hj hli hlj hrr he
    · rename_i _ hn; exact (cross hi hn hj hli hlj hrr he).elim
    · rename_i hn _; exact (cross hj hn hi hlj hli hrr.symm he.symm).elim
    · rename_i hn1 hn2
      obtain ⟨l1, hl1, hl1', _⟩ := g2 i Bi hn1 hi
      obtain ⟨l2, hl2, hl2', _⟩ := g2 j Bj hn2 hj
      rw [hl1'] at hli; rw [hl2'] at hlj
      simp only [Option.some.injEq] at hli hlj; subst hli; subst hlj
      exact h.rel.inj i j Bi Bj l1 l2 hi hj hl1 hl2 hrr he
  · intro i hi
    have := h'.nx
    simp only at hi this
    rw [h'.out i (by simp only; omega), h.out i hi]
  · intro q hq hb
    have h1 := h.size
    rw [h'.fr q (by omega) fun i B l hi hr hl he => ?_, h.fr q hq hb]
    rcases h.own i B l (hsub i B hi) hr hl with h2 | ⟨j, Bj, lj, hj, hjr, hlj, hbl⟩
    · omega
    · exact hb j Bj lj hj hjr hlj (by omega)
  · intro i B l hi hBr hl
    have h1 := h.size
    simp only at hi
    split at hi
    · rcases h'.own i B l hi hBr hl with h2 | ⟨z, Bz, lz, hz, hzr, hlz, hbz⟩
      · exact .inl (by omega)
      · rcases h.own z Bz lz (hsub z Bz hz) hzr hlz with h2 | ⟨j, Bj, lj, hj, hjr, hlj, hbl⟩
        · exact .inl (by omega)
        · exact .inr ⟨j, Bj, lj, hj, hjr, hlj, by omega⟩
    · rename_i hn
      obtain ⟨l1, hl1, hl1', _⟩ := g2 i B hn hi
      rw [hl1'] at hl; simp only [Option.some.injEq] at hl; subst hl
      exact h.own i B l1 hi hBr hl1
  · intro i t hi
    simp only at hi
    split at hi
    · exact h.ro i t (hsub i _ (h'.ro i t hi))
    · exact h.ro i t hi
  · intro i hi
    simp only at hi
    split at hi
    · rename_i hc
      rcases hc with hc | hc
      · obtain ⟨B, hB⟩ := Option.ne_none_iff_exists'.1 hc
        exact h.dom i (by simp only; rw [hsub i B hB]; simp)
      · exact .inr (by simp only; omega)
    · exact h.dom i hi

theorem DInv.congr {P : Program} {F : CallT} {N : Nat} {ops : Array Oper} {e0 : Env} {st0 : St} {x : X} {e1 : Env} {st1 : St} {C : Canon P F N ops e0 st0 x e1 st1} {m0 : Mp} {w0 : World} {a0 : Act} {D D' : Nat → Prop} {m : Mp} {G : Mem} {k : Nat} {a : Act} {w : World}
    (I : DInv C m0 w0 a0 D m G k a w) (h : ∀ j, D j ↔ D' j) : DInv C m0 w0 a0 D' m G k a w := by
  have : D = D' := funext fun j => propext (h j)
  exact this ▸ I

section
variable {P : Program} {F : CallT} (hF : FSound P F) {N : Nat} {ops : Array Oper} {e0 : Env} {st0 : St} {x : X} {e1 : Env} {st1 : St} (C : Canon P F N ops e0 st0 x e1 st1) {m0 : Mp} {w0 : World} {a0 : Act} {D : Nat → Prop} {m : Mp} {G : Mem} {k : Nat} {a : Act} {w : World}
include hF

theorem draw_step (I : DInv C m0 w0 a0 D m G k a w) (hN : a.tmps.size = N) {Q : Exit → Act → World → Prop} (hQ : ∀ ex a' w', Good m0 st0 w0 x e1 st1 a0 ex a' w' → Q ex a' w') {i : Nat} (hi : i < ops.size) (hni : ¬ D i)
    (hready : ∀ o, ops[i]? = some o → ∀ ed ∈ o.after, Region.binds .any ed = true → D ed.on) {K : Act → World → Prop}
    (hK : ∀ m' G' k' a' w', DInv C m0 w0 a0 (fun j => D j ∨ j = i) m' G' k' a' w' → a'.tmps.size = N → K a' w') : wpOp P ops Q i K a w := by
  obtain ⟨o, ho, hdst, hdN, hg, hop⟩ := chkI_spec (C.hchk i hi)
  have hnd := I.not_desc hi hready
  have henv := I.env hi hni hready
  have hslot : ∀ s, s ∈ (C.R i).op.slots → ((C.E i).keep (C.R i).slots).get s = (C.E i).get s := fun s hs => get_keep (by unfold RI.slots; exact List.mem_append_left _ hs)
  have hwant : wants ((C.E i).keep (C.R i).slots) (C.R i).gd = wants (C.E i) (C.R i).gd := wants_congr fun s hs => get_keep (by unfold RI.slots; exact List.mem_append_right _ hs)
  have hdone := C.done i hi
  have hNa : ∀ (d : Option Nat) (c : Value), (a.put d c).tmps.size = N := fun d c => by rw [put_size]; exact hN
  have nonac : (C.R i).isAc = false → ∀ j, j < ops.size → (C.R j).isAc = true → ((D j ∨ j = i) ↔ C.K j < k) := by
    intro hac j hj hjac
    rw [← I.acts j hj hjac]
    constructor
    · rintro (h | rfl)
      · exact h
      · rw [hac] at hjac; simp at hjac
    · exact .inl
  have ac : (C.R i).isAc = true → C.K i = k → ∀ j, j < ops.size → (C.R j).isAc = true → ((D j ∨ j = i) ↔ C.K j < k + 1) := by
    intro hac hk j hj hjac
    constructor
    · rintro (h | rfl)
      · have := (I.acts j hj hjac).1 h; omega
      · omega
    · intro hlt
      by_cases hjk : C.K j = k
      · exact .inr (C.kinj j i hj hi hjac hac (by omega))
      · exact .inl ((I.acts j hj hjac).2 (by omega))
  have same : Post m0 st0 w0 m ⟨G, st1.nx⟩ w := I.post
  have step0 : ∀ {v : AV} {c : Value}, (C.R i).isAc = false → (C.res i).val = some v → (∀ v B, C.res i ≠ .al v B) → RelV m v c → DInv C m0 w0 a0 (fun j => D j ∨ j = i) m G k (a.put o.dst c) w := by
    intro v c hac hv hnal hc
    refine I.step hi ho hready hN hv hc (Mp.le.refl m) same I.kle (nonac hac) I.mem ?_ (fun j v B hj hnd _ hr => I.unl j v B hj hnd hr) (fun j v s hj hnd _ hr => I.una j v s hj hnd hr)
    rintro j v' B (hj | rfl) hres hk
    · exact I.als j v' B hj hres hk
    · exact absurd hres (hnal v' B)
  -- the memory ahead of an actor lies in what there is
  have acsub : (C.R i).isAc = true → C.K i = k → ∀ y B, (C.S i).H y = some B → G y = some B := by
    intro hac hk y B hy
    rcases C.sub i hi hac hnd y B hy with h | ⟨j, hj, hkj, hji, rfl, v, hres⟩
    · exact I.mem y B (hk ▸ h)
    · have := (C.anc2 j i hj hi hac (by omega) hji).of_ready I.closed hready
      exact I.als j v B this hres (by omega)
  unfold wpOp
  rw [ho]
  simp only
  cases hres : C.res i with
  | skip =>
    rw [hres] at hdone
    obtain ⟨hw, hacm⟩ := hdone
    rw [wants_spec henv hg (hwant.trans hw)]
    simp only [Bool.false_eq_true, if_false]
    have hu0 : RelV m (.tuple []) undef := ⟨#[], rfl, trivial⟩
    cases hac : (C.R i).isAc with
    | false => exact hK _ _ _ _ _ (step0 hac (by rw [hres]; rfl) (by rw [hres]; intro v B h; cases h) hu0) (hNa _ _)
    | true =>
      have hk := I.count_ac hi hni hac hready
      obtain ⟨hM, hJ⟩ := hacm hac
      refine hK m G (k + 1) _ w (I.step hi ho hready hN (by rw [hres]; rfl) hu0 (Mp.le.refl m) same (by omega) (ac hac hk) ?_ ?_ (fun j v B hj hnd _ hr => I.unl j v B hj hnd hr) (fun j v s hj hnd _ hr => I.una j v s hj hnd hr)) (hNa _ _)
      · intro y B hy
        rw [← hk, hM] at hy
        exact acsub hac hk y B hy
      · rintro j v' B (hj | rfl) hr hkj
        · exact I.als j v' B hj hr (by omega)
        · rw [hres] at hr; cases hr
  | q v =>
    rw [hres] at hdone
    obtain ⟨hw, q, hq, hev⟩ := hdone
    rw [wants_spec henv hg (hwant.trans hw)]
    simp only [if_true]
    rw [hq] at hop
    have hev' : evQ P ((C.E i).keep (C.R i).slots) q = some v := by rw [evQ_congr (e' := C.E i) fun s hs => hslot s (by rw [hq]; exact hs)]; exact hev
    obtain ⟨c, hc, hrun⟩ := q_sound henv (o := o) hop hev'
    left
    unfold Oper.wp
    rw [hrun w, Oper.upon_value]
    exact hK _ _ _ _ _ (step0 (by simp [RI.isAc, hq]) (by rw [hres]; rfl) (by rw [hres]; intro v B h; cases h) hc) (hNa _ _)
  | rd v =>
    rw [hres] at hdone
    obtain ⟨hw, q, hq, hev⟩ := hdone
    rw [wants_spec henv hg (hwant.trans hw)]
    simp only [if_true]
    rw [hq] at hop
    obtain ⟨h1, h2⟩ := I.count hi hni hready
    have hev' : evR (C.M k) ((C.E i).keep (C.R i).slots) q = some v := by rw [evR_congr (e' := C.E i) fun s hs => hslot s (by rw [hq]; exact hs)]; exact hev k h1 h2 I.kle
    have hrel : RelH m (C.M k) w := ⟨fun y B hy => I.post.rel.blk y B (I.mem y B hy), fun y z By Bz ly lz hy hz => I.post.rel.inj y z By Bz ly lz (I.mem y By hy) (I.mem z Bz hz)⟩
    obtain ⟨c, hc, hrun⟩ := r_sound henv hrel (o := o) hop hev'
    left
    unfold Oper.wp
    rw [hrun, Oper.upon_value]
    exact hK _ _ _ _ _ (step0 (by simp [RI.isAc, hq]) (by rw [hres]; rfl) (by rw [hres]; intro v B h; cases h) hc) (hNa _ _)
  | al v B =>
    rw [hres] at hdone
    obtain ⟨hw, ⟨q, hq, hev⟩, hn0, hn1, hMn⟩ := hdone
    rw [wants_spec henv hg (hwant.trans hw)]
    simp only [if_true]
    rw [hq] at hop
    obtain ⟨_, hkle⟩ := I.count hi hni hready
    have hac : (C.R i).isAc = false := by simp [RI.isAc, hq]
    have hev' : evAl ((C.E i).keep (C.R i).slots) (C.S i).nx q = some (v, B) := by rw [evAl_congr (e' := C.E i) fun s hs => hslot s (by rw [hq]; exact hs)]; exact hev
    have hun : Unm m (C.S i).nx ((C.S i).nx + 1) := by
      intro y h1 h2
      have : y = (C.S i).nx := by omega
      rw [this]; exact I.unl i v B hi hni hres
    obtain ⟨m', w', c, hrun, hc, hp⟩ := l_sound (st := ⟨G, (C.S i).nx⟩) henv I.post.rel hun (o := o) hop hev'
    left
    unfold Oper.wp
    rw [hrun, Oper.upon_value]
    have hle := hp.le hun
    have hext := same.extend hp (fun _ _ h => h) hun hn0 (by simp only; omega)
    simp only at hext
    have hGid : G (C.S i).nx = none := by
      cases hg' : G (C.S i).nx with
      | none => rfl
      | some B' =>
        obtain ⟨l, hl, _⟩ := I.post.rel.blk _ B' hg'
        rw [I.unl i v B hi hni hres] at hl; simp at hl
    refine hK _ _ k _ _ (I.step hi ho hready hN (by rw [hres]; rfl) hc hle hext I.kle (nonac hac) ?_ ?_ ?_ ?_) (hNa _ _)
    · intro y B' hy
      have hne : y ≠ (C.S i).nx := by intro he; rw [he, hMn k hkle] at hy; simp at hy
      have := I.mem y B' hy
      simp only [Mem.upd, hne, if_false]
      split <;> exact this
    · rintro j v' B' (hj | rfl) hr hkj
      · have hji : j ≠ i := fun h => hni (h ▸ hj)
        have hne : (C.S j).nx ≠ (C.S i).nx := fun he => (C.apart i j hi (I.dlt j hj) hji.symm v B hres).1 v' B' hr he.symm
        have := I.als j v' B' hj hr hkj
        simp only [Mem.upd, hne, if_false]
        split <;> exact this
      · rw [hres] at hr
        simp only [Res.al.injEq] at hr
        obtain ⟨rfl, rfl⟩ := hr
        simp [Mem.upd]
    · intro j v' B' hj hnd' hji hr
      have hne : (C.S j).nx ≠ (C.S i).nx := fun he => (C.apart i j hi hj (Ne.symm hji) v B hres).1 v' B' hr he.symm
      rw [hp.out _ (by simp only; omega)]
      exact I.unl j v' B' hj hnd' hr
    · intro j v' st' hj hnd' hji hr y h1 h2
      have := (C.apart i j hi hj (Ne.symm hji) v B hres).2 v' st' hr
      rw [hp.out _ (by simp only; omega)]
      exact I.una j v' st' hj hnd' hr y h1 h2
  | ac v st' =>
    rw [hres] at hdone
    obtain ⟨hw, ⟨q, hq, hev⟩, hM, hJ, hn0, hn1, hn2⟩ := hdone
    rw [wants_spec henv hg (hwant.trans hw)]
    simp only [if_true]
    rw [hq] at hop
    have hac : (C.R i).isAc = true := by simp [RI.isAc, hq]
    have hk := I.count_ac hi hni hac hready
    have hev' : evA F ((C.E i).keep (C.R i).slots) (C.S i) q = some (.val v, st') := by rw [evA_congr (e' := C.E i) fun s hs => hslot s (by rw [hq]; exact hs)]; exact hev
    have hun := I.una i v st' hi hni (.inl hres)
    have hsub := acsub hac hk
    have hrel : RelH m (C.S i).H w := ⟨fun y B hy => I.post.rel.blk y B (hsub y B hy), fun y z By Bz ly lz hy hz => I.post.rel.inj y z By Bz ly lz (hsub y By hy) (hsub z Bz hz)⟩
    left
    refine a_sound hF henv hrel (o := o) hop hev' hun ?_
    intro m' w' c hp hc
    have hle := hp.le hun
    have hext := same.extend hp hsub hun hn0 hn2
    refine hK _ _ (k + 1) _ _ (I.step hi ho hready hN (by rw [hres]; rfl) hc hle hext (by omega) (ac hac hk) ?_ ?_ ?_ ?_) (hNa _ _)
    · intro y B hy
      rw [← hk, hM] at hy
      have := hp.dom y (by rw [hy]; simp)
      rw [if_pos this]; exact hy
    · rintro j v' B' (hj | rfl) hr hkj
      · have hji : j ≠ i := fun h => hni (h ▸ hj)
        have hjl := I.dlt j hj
        have hdj := C.done j hjl
        rw [hr] at hdj
        have hnot : ¬ ((C.S i).H (C.S j).nx ≠ none ∨ ((C.S i).nx ≤ (C.S j).nx ∧ (C.S j).nx < st'.nx)) := by
          rintro (h | h)
          · obtain ⟨B2, hB2⟩ := Option.ne_none_iff_exists'.1 h
            rcases C.sub i hi hac hnd _ B2 hB2 with h1 | ⟨j2, hj2, hk2, hj2i, hnx2, v2, hr2⟩
            · rw [hdj.2.2.2.2 (C.K i) (by omega)] at h1; simp at h1
            · have hne : j ≠ j2 := by intro he; rw [← he] at hk2; omega
              exact (C.apart j j2 hjl hj2 hne v' B' hr).1 v2 B2 hr2 hnx2.symm
          · exact (C.apart j i hjl hi hji v' B' hr).2 v st' (.inl hres) h
        rw [if_neg hnot]
        exact I.als j v' B' hj hr (by omega)
      · rw [hres] at hr; cases hr
    · intro j v' B' hj hnd' hji hr
      have := (C.apart j i hj hi hji v' B' hr).2 v st' (.inl hres)
      rw [hp.out _ (by omega)]
      exact I.unl j v' B' hj hnd' hr
    · intro j v' st'' hj hnd' hji hr y h1 h2
      have := C.apart2 j i hj hi hji v' st'' v st' hr (.inl hres) y
      rw [hp.out _ (by omega)]
      exact I.una j v' st'' hj hnd' hr y h1 h2
  | pan v st' =>
    rw [hres] at hdone
    obtain ⟨hw, ⟨q, hq, hev⟩, hKJ, hx, hst, hst2, he1, hn0⟩ := hdone
    rw [wants_spec henv hg (hwant.trans hw)]
    simp only [if_true]
    rw [hq] at hop
    have hac : (C.R i).isAc = true := by simp [RI.isAc, hq]
    have hk := I.count_ac hi hni hac hready
    have hev' : evA F ((C.E i).keep (C.R i).slots) (C.S i) q = some (.pan v, st') := by rw [evA_congr (e' := C.E i) fun s hs => hslot s (by rw [hq]; exact hs)]; exact hev
    have hun := I.una i v st' hi hni (.inr hres)
    have hsub := acsub hac hk
    have hrel : RelH m (C.S i).H w := ⟨fun y B hy => I.post.rel.blk y B (hsub y B hy), fun y z By Bz ly lz hy hz => I.post.rel.inj y z By Bz ly lz (hsub y By hy) (hsub z Bz hz)⟩
    left
    refine a_sound hF henv hrel (o := o) hop hev' hun ?_
    intro m' w' c hp hc
    have hext := same.extend hp hsub hun hn0 hst2
    refine hQ _ _ _ ⟨m', ?_, ?_, ?_, I.size, I.defers⟩
    · have := hext.forget (H := st'.H) (fun y B hy => by
        have := hp.dom y (by rw [hy]; simp)
        simp only
        rw [if_pos this]; exact hy)
      simp only at this
      rw [hst] at this
      exact this
    · rw [hx]; exact ⟨c, hc, rfl⟩
    · rw [he1]; intro s u hu; simp [Env.get] at hu
  | desc => exact absurd hres hnd

end
end Go.AM
