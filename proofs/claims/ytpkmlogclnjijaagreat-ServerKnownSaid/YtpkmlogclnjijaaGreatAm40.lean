import Derived.Test.YtpkmlogclnjijaaGreatAm39
set_option linter.unusedVariables false
namespace Go.AM

/-! Memory. -/

noncomputable def scB (v : AV) : Bool := match v with
  | .agg _ _ => false
  | .arr _ _ => false
  | .tuple _ => false
  | _ => true

theorem scB_props {v : AV} (h : scB v = true) : v.size = 1 ∧ v.isAgg = false ∧ (∀ l, v ≠ .tuple l) ∧ (∀ k cs, v ≠ .arr k cs) := by
  cases v <;> simp [scB] at h <;> simp [AV.size, AV.isAgg]

theorem like_sc {o v : AV} (h : scB o = true) (h' : scB v = true) : o.like v := by
  obtain ⟨h1, _, _, h2⟩ := scB_props h
  obtain ⟨h3, _, _, h4⟩ := scB_props h'
  unfold AV.like
  split
  · exact absurd rfl (h2 _ _)
  · exact absurd rfl (h2 _ _)
  · exact absurd rfl (h4 _ _)
  · rw [h1, h3]

noncomputable def okV (g : Bool) (n : Nat) (v : AV) : Bool := @Bool.rec (fun _ => Bool) (decide (v.isAgg = g ∧ v.size = n)) (@Bool.rec (fun _ => Bool) (Nat.beq 1 n) false g) (scB v)
theorem okV_eq {g : Bool} {n : Nat} {v : AV} : okV g n v = decide (v.isAgg = g ∧ v.size = n) := by
  unfold okV
  cases h : scB v with
  | false => rfl
  | true =>
    obtain ⟨h1, h2, _⟩ := scB_props h
    rw [h1, h2]
    cases g with
    | true => simp
    | false =>
      show Nat.beq 1 n = _
      cases hn : Nat.beq 1 n with
      | true => rw [← Nat.eq_of_beq_eq_true hn]; simp
      | false => have := Nat.ne_of_beq_eq_false hn; simp [this]

noncomputable abbrev sNchk (a : AV) (c : AV → Kr) : Kr := (kQ Go.Proofs.Tryz.prog [(0, a)] (.nchk (.t 0))).bind c
noncomputable def xNchk (a : AV) (c : AV → Kr) : Kr := match a with
  | .ptr (some p) => c (.ptr (some p))
  | _ => none
theorem xNchk_eq : xNchk = sNchk := by
  funext a c
  cases a with
  | ptr p => cases p <;> rfl
  | _ => rfl

noncomputable abbrev sLen (a : AV) (c : AV → Kr) : Kr := (kQ Go.Proofs.Tryz.prog [(0, a)] (.len false (.t 0))).bind c
noncomputable def xLen (a : AV) (c : AV → Kr) : Kr := match a with
  | .slice _ n => fN n fun n => c (.sc (.int .i64 (.ofNat n)))
  | _ => none
theorem xLen_eq : xLen = sLen := by
  funext a c
  cases a with
  | slice s n =>
    have h : xLen (.slice s n) c = fN n fun n => c (.sc (.int .i64 (.ofNat n))) := rfl
    rw [h, fN_eq]; rfl
  | _ => rfl

noncomputable abbrev sFld (f δ : Nat) (a : AV) (c : AV → Kr) : Kr := (kQ Go.Proofs.Tryz.prog [(0, a)] (.fld f δ (.t 0))).bind c
noncomputable def xFld (f δ : Nat) (a : AV) (c : AV → Kr) : Kr := match a with
  | .ptr (some (b, [])) => c (.ptr (some (b, [(f, δ)])))
  | _ => sFld f δ a c
theorem xFld_eq : xFld = sFld := by
  funext f δ a c
  unfold xFld
  split <;> rfl

noncomputable abbrev sExt (i : Nat) (a : AV) (c : AV → Kr) : Kr := (kQ Go.Proofs.Tryz.prog [(0, a)] (.ext i (.t 0))).bind c
noncomputable def xExt (i : Nat) (a : AV) (c : AV → Kr) : Kr := match a with
  | .tuple vs => nthC vs i c
  | _ => none
theorem xExt_eq : xExt = sExt := by
  funext i a c
  cases a with
  | tuple vs =>
    have h : xExt i (.tuple vs) c = nthC vs i c := rfl
    rw [h, nthC_eq]; rfl
  | _ => rfl

noncomputable abbrev sNil (k : Nat) (n : Bool) (a : AV) (c : AV → Kr) : Kr := (kQ Go.Proofs.Tryz.prog [(0, a)] (.nil k n (.t 0))).bind c
noncomputable def xNil (k : Nat) (n : Bool) (a : AV) (c : AV → Kr) : Kr := @Option.rec _ (fun _ => Kr) none (fun r => fB (r != n) fun b => c (.sc (.bool b))) (a.isNil k)
theorem xNil_eq : xNil = sNil := by
  funext k n a c
  unfold xNil
  simp only [fB_eq]
  have h : sNil k n a c = ((a.isNil k).map fun r => AV.sc (.bool (r != n))).bind c := rfl
  rw [h]
  cases a.isNil k <;> rfl

noncomputable abbrev sLd (t : Tr Blk) (g : Bool) (n : Nat) (a : AV) (c : AV → Kr) : Kr := (evR t.get [(0, a)] (.ld g n (.t 0))).bind c
noncomputable def xLd (t : Tr Blk) (g : Bool) (n : Nat) (a : AV) (c : AV → Kr) : Kr := match a with
  | .ptr (some (b, [])) => tgC t b fun o => match o with
    | some (.tree v) => ifB (okV g n v) (c v) none
    | _ => sLd t g n a c
  | _ => sLd t g n a c

theorem ifB_dec {p : Prop} [Decidable p] {x y : Kr} : ifB (decide p) x y = if p then x else y := by
  by_cases h : p
  · rw [if_pos h, decide_eq_true h]; rfl
  · rw [if_neg h, decide_eq_false h]; rfl

theorem okBind {g : Bool} {n : Nat} {v : AV} {c : AV → Kr} : ifB (okV g n v) (c v) none = (if v.isAgg = g ∧ v.size = n then some v else none).bind c := by
  rw [okV_eq, ifB_dec]
  by_cases h : v.isAgg = g ∧ v.size = n
  · rw [if_pos h, if_pos h]; rfl
  · rw [if_neg h, if_neg h]; rfl

theorem xLd_eq : xLd = sLd := by
  funext t g n a c
  unfold xLd
  simp only [tgC_eq]
  split
  · rename_i b
    split
    · rename_i v hv
      rw [okBind]
      simp only [sLd, evR, Env.ev, Env.get, if_true, ldTree, ldPtr, hv, getAt, Option.bind_some]
    · rfl
  · rfl

noncomputable abbrev sLdf (t : Tr Blk) (f δ : Nat) (g : Bool) (n : Nat) (a : AV) (c : AV → Kr) : Kr :=
  (kQ Go.Proofs.Tryz.prog [(0, a)] (.nchk (.t 0))).bind fun v1 => (kQ Go.Proofs.Tryz.prog [(0, v1)] (.fld f δ (.t 0))).bind fun v2 => (evR t.get [(0, v2)] (.ld g n (.t 0))).bind c
noncomputable def xLdf (t : Tr Blk) (f δ : Nat) (g : Bool) (n : Nat) (a : AV) (c : AV → Kr) : Kr := match a with
  | .ptr (some (b, [])) => tgC t b fun o => match o with
    | some (.tree (.agg sz cs)) => ifB (Nat.beq (sz.take f).sum δ) (nthC cs f fun v => ifB (okV g n v) (c v) none) none
    | _ => sLdf t f δ g n a c
  | _ => sLdf t f δ g n a c
theorem xLdf_eq : xLdf = sLdf := by
  funext t f δ g n a c
  unfold xLdf
  simp only [tgC_eq]
  split
  · rename_i b
    split
    · rename_i sz cs hv
      simp only [sLdf, kQ, evQ, evR, Env.ev, Env.get, if_true, Option.bind_some, ldTree, ldPtr, hv, List.nil_append, getAt]
      cases hs : Nat.beq (sz.take f).sum δ with
      | true =>
        rw [if_pos (Nat.eq_of_beq_eq_true hs)]
        show nthC cs f _ = _
        rw [nthC_eq]
        cases cs[f]? with
        | none => rfl
        | some v => exact okBind
      | false =>
        rw [if_neg (Nat.ne_of_beq_eq_false hs)]
        rfl
    · rfl
  · rfl

noncomputable abbrev sIxl (t : Tr Blk) (kk : Nat) (g : Bool) (n : Nat) (s i : AV) (c : AV → Kr) : Kr :=
  (kQ Go.Proofs.Tryz.prog [(0, s), (1, i)] (.ixs kk (.t 0) (.t 1))).bind fun p => (evR t.get [(0, p)] (.ld g n (.t 0))).bind c
noncomputable def xIxl (t : Tr Blk) (kk : Nat) (g : Bool) (n : Nat) (s i : AV) (c : AV → Kr) : Kr := match s with
  | .slice (some ⟨b, [], off, k', _⟩) len => match i with
    | .sc (.int _ (.ofNat j)) => ifB (Nat.ble (Nat.succ j) len) (ifB (Nat.beq k' kk) (tgC t b fun o => match o with
      | some (.tree (.arr k2 cs)) => ifB (Nat.beq k2 kk) (nthC cs (Nat.add off j) fun v => ifB (okV g n v) (c v) none) (sIxl t kk g n s i c)
      | _ => sIxl t kk g n s i c) (sIxl t kk g n s i c)) (sIxl t kk g n s i c)
    | _ => sIxl t kk g n s i c
  | _ => sIxl t kk g n s i c
theorem ixs_run {P : Program} {b off kk j len : Nat} {tot : Option Nat} {ik : IntKind} (h : j < len) :
    kQ P [(0, .slice (some ⟨b, [], off, kk, tot⟩) len), (1, .sc (.int ik (.ofNat j)))] (.ixs kk (.t 0) (.t 1)) = some (.ptr (some (b, [(off + j, (off + j) * kk)]))) := by
  show (if 0 ≤ Int.ofNat j ∧ Int.ofNat j < (len : Int) ∧ kk = kk then some (AV.ptr (some (b, [(off + j, (off + j) * kk)]))) else none) = _
  rw [if_pos ⟨Int.natCast_nonneg j, by show (j : Int) < len; omega, rfl⟩]

theorem xIxl_eq : xIxl = sIxl := by
  funext t kk g n s i c
  unfold xIxl
  simp only [tgC_eq]
  split
  · rename_i b off k' tot len
    split
    · rename_i ik j
      refine ifB_eq fun h1 => ifB_eq fun h2 => ?_
      split
      · rename_i k2 cs hv
        refine ifB_eq fun h3 => ?_
        have h1 := Nat.ble_eq.mp h1
        have h2 := Nat.eq_of_beq_eq_true h2
        have h3 := Nat.eq_of_beq_eq_true h3
        subst h2; subst h3
        rw [nthC_eq, sIxl, ixs_run (by omega), Option.bind_some]
        simp only [evR, Env.ev, Env.get, if_true, ldTree, ldPtr, hv, getAt]
        have ho : cs[Nat.add off j]? = cs[off + j]? := rfl
        rw [ho]
        cases cs[off + j]? with
        | none => rfl
        | some v => exact okBind
      · rfl
    · rfl
  · rfl

noncomputable abbrev sSt (k : KS) (n : Nat) (q v : AV) (c p : AV → KS → Kr) : Kr := pCall (kA (fun _ _ _ => none) [(0, q), (1, v)] k (.st n (.t 0) (.t 1))) c p

theorem st_run {k : KS} {b : Nat} {q : List (Nat × Nat)} {v t t' : AV} {c p : AV → KS → Kr} (hv : scB v = true) (hb : k.t.get b = some (.tree t)) (hs : setAt v t q = some t') :
    sSt k 1 (.ptr (some (b, q))) v c p = (Tr.set 64 k.t b (some (.tree t'))).bind fun t'' => c (.tuple []) ⟨t'', k.nx⟩ := by
  obtain ⟨h1, _, h2, _⟩ := scB_props hv
  have he : Env.ev0 [(0, AV.ptr (some (b, q))), (1, v)] (.t 1) = some v := by
    have : Env.ev [(0, AV.ptr (some (b, q))), (1, v)] (.t 1) = some v := rfl
    unfold Env.ev0
    rw [this]
    cases v with
    | tuple l => exact absurd rfl (h2 l)
    | _ => rfl
  have hx : Env.ev [(0, AV.ptr (some (b, q))), (1, v)] (.t 0) = some (.ptr (some (b, q))) := rfl
  have hw : wA [(0, AV.ptr (some (b, q))), (1, v)] k.t.get k.nx (.st 1 (.t 0) (.t 1)) = some (.val (.tuple []), [(b, some (.tree t'))], k.nx) := by
    simp only [wA, hx, he, h1, if_true, hb, hs, Option.map_some]
  simp only [sSt, kA, hw, Tr.sets]
  cases Tr.set 64 k.t b (some (.tree t')) with
  | none => rfl
  | some t2 => rfl

noncomputable abbrev sStf (k : KS) (f δ n : Nat) (a v : AV) (c p : AV → KS → Kr) : Kr :=
  (kQ Go.Proofs.Tryz.prog [(0, a)] (.nchk (.t 0))).bind fun v1 => (kQ Go.Proofs.Tryz.prog [(0, v1)] (.fld f δ (.t 0))).bind fun v2 => sSt k n v2 v c p
noncomputable def xStf (k : KS) (f δ n : Nat) (a v : AV) (c p : AV → KS → Kr) : Kr := match a with
  | .ptr (some (b, [])) => ifB (scB v) (ifB (Nat.beq n 1) (tgC k.t b fun o' => match o' with
    | some (.tree (.agg sz cs)) => ifB (Nat.beq (sz.take f).sum δ) (@Option.rec _ (fun _ => Kr) (sStf k f δ n a v c p) (fun o => ifB (scB o) (setC v cs f fun _ cs' => tsC (some (.tree (.agg sz cs'))) 64 k.t b fun t' => c (.tuple []) ⟨t', k.nx⟩) (sStf k f δ n a v c p)) cs[f]?) (sStf k f δ n a v c p)
    | _ => sStf k f δ n a v c p) (sStf k f δ n a v c p)) (sStf k f δ n a v c p)
  | _ => sStf k f δ n a v c p
theorem xStf_eq : xStf = sStf := by
  funext k f δ n a v c p
  unfold xStf
  simp only [tgC_eq]
  split
  · rename_i b
    refine ifB_eq fun h1 => ifB_eq fun h2 => ?_
    split
    · rename_i sz cs hb
      refine ifB_eq fun h3 => ?_
      cases hf : cs[f]? with
      | none => rfl
      | some o =>
        refine ifB_eq fun h4 => ?_
        have h2 := Nat.eq_of_beq_eq_true h2
        subst h2
        have h3 := Nat.eq_of_beq_eq_true h3
        rw [setC_eq, hf]
        simp only [Option.bind_some]
        rw [tsC_eq]
        have hs : setAt v (.agg sz cs) [(f, δ)] = some (.agg sz (cs.set f v)) := by
          simp only [setAt, if_pos h3, hf, Option.bind_some]
          rw [if_pos (like_sc h4 h1)]
          rfl
        have hs' : setAt v (.agg sz cs) ([] ++ [(f, δ)]) = some (.agg sz (cs.set f v)) := hs
        simp only [sStf, kQ, evQ, Env.ev, Env.get, if_true, Option.bind_some]
        exact (st_run h1 hb hs').symm
    · rfl
  · rfl

noncomputable abbrev sIxst (k : KS) (kk n : Nat) (s i v : AV) (c p : AV → KS → Kr) : Kr :=
  (kQ Go.Proofs.Tryz.prog [(0, s), (1, i)] (.ixs kk (.t 0) (.t 1))).bind fun q => sSt k n q v c p
noncomputable def xIxst (k : KS) (kk n : Nat) (s i v : AV) (c p : AV → KS → Kr) : Kr := match s with
  | .slice (some ⟨b, [], off, k', _⟩) len => match i with
    | .sc (.int _ (.ofNat j)) => ifB (Nat.ble (Nat.succ j) len) (ifB (Nat.beq k' kk) (ifB (scB v) (ifB (Nat.beq n 1) (tgC k.t b fun o' => match o' with
      | some (.tree (.arr k2 cs)) => ifB (Nat.beq k2 kk) (fN (Nat.add off j) fun i' => @Option.rec _ (fun _ => Kr) (sIxst k kk n s i v c p) (fun o => ifB (scB o) (setC v cs i' fun _ cs' => tsC (some (.tree (.arr k2 cs'))) 64 k.t b fun t' => c (.tuple []) ⟨t', k.nx⟩) (sIxst k kk n s i v c p)) cs[i']?) (sIxst k kk n s i v c p)
      | _ => sIxst k kk n s i v c p) (sIxst k kk n s i v c p)) (sIxst k kk n s i v c p)) (sIxst k kk n s i v c p)) (sIxst k kk n s i v c p)
    | _ => sIxst k kk n s i v c p
  | _ => sIxst k kk n s i v c p
theorem xIxst_eq : xIxst = sIxst := by
  funext k kk n s i v c p
  unfold xIxst
  simp only [tgC_eq]
  split
  · rename_i b off k' tot len
    split
    · rename_i ik j
      refine ifB_eq fun h1 => ifB_eq fun h2 => ifB_eq fun h4 => ifB_eq fun h5 => ?_
      split
      · rename_i k2 cs hb
        refine ifB_eq fun h3 => ?_
        rw [fN_eq]
        cases hf : cs[Nat.add off j]? with
        | none => rfl
        | some o =>
          refine ifB_eq fun h6 => ?_
          have h1 := Nat.ble_eq.mp h1
          have h2 := Nat.eq_of_beq_eq_true h2
          have h3 := Nat.eq_of_beq_eq_true h3
          have h5 := Nat.eq_of_beq_eq_true h5
          subst h2; subst h3; subst h5
          rw [setC_eq, hf]
          simp only [Option.bind_some]
          rw [tsC_eq]
          have hs : setAt v (.arr k2 cs) [(off + j, (off + j) * k2)] = some (.arr k2 (cs.set (off + j) v)) := by
            have hf' : cs[off + j]? = some o := hf
            simp only [setAt, if_true, hf', Option.bind_some]
            rw [if_pos (like_sc h6 h4)]
            rfl
          rw [sIxst, ixs_run (by omega), Option.bind_some]
          exact (st_run h4 hb hs).symm
      · rfl
    · rfl
  · rfl

end Go.AM
