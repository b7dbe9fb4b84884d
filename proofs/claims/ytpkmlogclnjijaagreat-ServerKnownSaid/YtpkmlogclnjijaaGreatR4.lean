import Derived.Test.YtpkmlogclnjijaaGreatAm43
/-! The resolved form of the program's functions, written by program. -/
set_option linter.unusedVariables false
namespace Go.AM
open Go.Proofs

/-! (*doubletake/bits.Reader).Get -/
def o219n0 : List RI := [⟨(some 4), none, (.q (.mov (.k (.int .u64 0))))⟩]
noncomputable def b219n0 (K : KTC) (k : KS) (a0 a1 : AV) (c : KN) (p : KV) : Kr :=
  c [(0, a0), (1, a1)] k
theorem e219n0 (K : KTC) (k : KS) (a0 a1 : AV) (c : KN) (p : KV) : b219n0 K k a0 a1 c p = wReg Tryz.prog K [0, 1] o219n0 [(0, a0), (1, a1)] k c p := by unfold b219n0; kernel_rfl
noncomputable def s219n0 (K : KTC) (e : Env) (k : KS) (c : KN) (p : KV) : Kr := gt e 0 fun a0 => gt e 1 fun a1 => b219n0 K k a0 a1 c p
theorem p219n0 (K : KTC) (K' : KT) (hK : CSound K K') : FitsC Tryz.prog K' (.reg (s219n0 K)) (.reg o219n0 [0, 1]) := fun e k c p y h => by
  obtain ⟨a0, h0, h⟩ := gt_some h
  obtain ⟨a1, h1, h⟩ := gt_some h
  exact wreg_fit hK (by decide +kernel) (keep_cons h0 (keep_cons h1 (keep_nil))) (e219n0 K k a0 a1 c p) h
def o219n1 : List RI := [⟨(some 7), none, (.q (.mov (.t 1)))⟩, ⟨(some 8), none, (.ac (.callf 161 [(.t 7)]))⟩, ⟨(some 1), none, (.q (.mov (.t 8)))⟩]
noncomputable def b219n1 (K : KTC) (k : KS) (a1 a0 : AV) (c : KN) (p : KV) : Kr :=
  K 161 [a1] k (fun v0 k0 =>
  c [(0, a0), (1, v0)] k0) (p)
theorem e219n1 (K : KTC) (k : KS) (a1 a0 : AV) (c : KN) (p : KV) : b219n1 K k a1 a0 c p = wReg Tryz.prog K [0, 1] o219n1 [(1, a1), (0, a0)] k c p := by unfold b219n1; kernel_rfl
noncomputable def s219n1 (K : KTC) (e : Env) (k : KS) (c : KN) (p : KV) : Kr := gt e 1 fun a1 => gt e 0 fun a0 => b219n1 K k a1 a0 c p
theorem p219n1 (K : KTC) (K' : KT) (hK : CSound K K') : FitsC Tryz.prog K' (.reg (s219n1 K)) (.reg o219n1 [0, 1]) := fun e k c p y h => by
  obtain ⟨a1, h1, h⟩ := gt_some h
  obtain ⟨a0, h0, h⟩ := gt_some h
  exact wreg_fit hK (by decide +kernel) (keep_cons h1 (keep_cons h0 (keep_nil))) (e219n1 K k a1 a0 c p) h
def o219n2 : Plan := [(1, ⟨(some 10), none, (.q (.mov (.t 0)))⟩, 0), (2, ⟨(some 11), none, (.ac (.callf 228 [(.t 10)]))⟩, 0), (0, ⟨(some 9), none, (.q (.mov (.t 1)))⟩, 1), (3, ⟨(some 12), none, (.q (.bin .leq 3 (.t 9) (.t 11)))⟩, 0), (4, ⟨(some 13), none, (.q (.mov (.t 0)))⟩, 1), (5, ⟨(some 14), none, (.q (.nchk (.t 13)))⟩, 1), (6, ⟨(some 15), none, (.q (.fld 1 1 (.t 14)))⟩, 1), (7, ⟨(some 16), none, (.rd (.ld false 1 (.t 15)))⟩, 1), (8, ⟨(some 17), none, (.ac (.callf 227 [(.t 12), (.k (.int .i64 100)), (.t 16)]))⟩, 0)]
noncomputable def b219n2 (K : KTC) (k : KS) (a0 a1 : AV) (c : KN) (p : KV) : Kr :=
  K 228 [a0] k (fun v0 k0 =>
  xLeq 3 a1 v0 fun v1 =>
  xNchk a0 fun v2 =>
  xFld 1 1 v2 fun v3 =>
  xLd k0.t false 1 v3 fun v4 =>
  bif oldOk [(15, v3)] (.ld false 1 (.t 15)) v4 [k.t] then (K 227 [v1, (.sc (.int .i64 100)), v4] k0 (fun v5 k5 =>
  c [(0, a0), (1, a1)] k5) (fun v5 k5 => (kDead [k.t] k0.t Tryz.prog 1 (o219n2.drop 9) (Env.del [(16, v4), (15, v3), (14, v2), (13, a0), (12, v1), (9, a1), (11, v0), (10, a0), (0, a0), (1, a1)] (some 17)) k5).bind fun s => p v5 ⟨k5.t, s.nx⟩)) else none) (fun v0 k0 => (kDead [] k.t Tryz.prog 1 (o219n2.drop 2) (Env.del [(10, a0), (0, a0), (1, a1)] (some 11)) k0).bind fun s => p v0 ⟨k0.t, s.nx⟩)
theorem e219n2 (K : KTC) (k : KS) (a0 a1 : AV) (c : KN) (p : KV) : b219n2 K k a0 a1 c p = wLive Tryz.prog K [0, 1] o219n2 [(0, a0), (1, a1)] k k.t [] c p := by unfold b219n2; simp only [xLd_eq, xFld_eq, xNchk_eq, xLeq_eq]; kernel_rfl
noncomputable def s219n2 (K : KTC) (e : Env) (k : KS) (c : KN) (p : KV) : Kr := gt e 0 fun a0 => gt e 1 fun a1 => b219n2 K k a0 a1 c p
theorem p219n2 (K : KTC) (K' : KT) (hK : CSound K K') : FitsC Tryz.prog K' (.reg (s219n2 K)) (.draw o219n2 [0, 1]) := fun e k c p y h => by
  obtain ⟨a0, h0, h⟩ := gt_some h
  obtain ⟨a1, h1, h⟩ := gt_some h
  exact wdraw_fit hK (by decide +kernel) (keep_cons h0 (keep_cons h1 (keep_nil))) (e219n2 K k a0 a1 c p) h
def o219n3 : List RI := [⟨(some 5), none, (.q (.mov (.k (.int .u64 0))))⟩]
noncomputable def b219n3 (K : KTC) (k : KS) (a0 a1 : AV) (c : KN) (p : KV) : Kr :=
  c [(0, a0), (1, a1), (5, (.sc (.int .u64 0)))] k
theorem e219n3 (K : KTC) (k : KS) (a0 a1 : AV) (c : KN) (p : KV) : b219n3 K k a0 a1 c p = wReg Tryz.prog K [0, 1, 5] o219n3 [(0, a0), (1, a1)] k c p := by unfold b219n3; kernel_rfl
noncomputable def s219n3 (K : KTC) (e : Env) (k : KS) (c : KN) (p : KV) : Kr := gt e 0 fun a0 => gt e 1 fun a1 => b219n3 K k a0 a1 c p
theorem p219n3 (K : KTC) (K' : KT) (hK : CSound K K') : FitsC Tryz.prog K' (.reg (s219n3 K)) (.reg o219n3 [0, 1, 5]) := fun e k c p y h => by
  obtain ⟨a0, h0, h⟩ := gt_some h
  obtain ⟨a1, h1, h⟩ := gt_some h
  exact wreg_fit hK (by decide +kernel) (keep_cons h0 (keep_cons h1 (keep_nil))) (e219n3 K k a0 a1 c p) h
def o219n4 : List RI := [⟨(some 18), none, (.q (.mov (.t 1)))⟩, ⟨(some 19), none, (.q (.mov (.k (.int .i64 0))))⟩]
noncomputable def b219n4 (K : KTC) (k : KS) (a1 a0 a5 : AV) (c : KN) (p : KV) : Kr :=
  c [(0, a0), (5, a5), (18, a1), (19, (.sc (.int .i64 0)))] k
theorem e219n4 (K : KTC) (k : KS) (a1 a0 a5 : AV) (c : KN) (p : KV) : b219n4 K k a1 a0 a5 c p = wReg Tryz.prog K [0, 5, 18, 19] o219n4 [(1, a1), (0, a0), (5, a5)] k c p := by unfold b219n4; kernel_rfl
noncomputable def s219n4 (K : KTC) (e : Env) (k : KS) (c : KN) (p : KV) : Kr := gt e 1 fun a1 => gt e 0 fun a0 => gt e 5 fun a5 => b219n4 K k a1 a0 a5 c p
theorem p219n4 (K : KTC) (K' : KT) (hK : CSound K K') : FitsC Tryz.prog K' (.reg (s219n4 K)) (.reg o219n4 [0, 5, 18, 19]) := fun e k c p y h => by
  obtain ⟨a1, h1, h⟩ := gt_some h
  obtain ⟨a0, h0, h⟩ := gt_some h
  obtain ⟨a5, h5, h⟩ := gt_some h
  exact wreg_fit hK (by decide +kernel) (keep_cons h1 (keep_cons h0 (keep_cons h5 (keep_nil)))) (e219n4 K k a1 a0 a5 c p) h
def o219n5 : List RI := [⟨(some 20), none, (.q (.bin .lss 3 (.t 19) (.t 18)))⟩]
noncomputable def b219n5 (K : KTC) (k : KS) (a19 a18 a0 a5 : AV) (c : KN) (p : KV) : Kr :=
  xLss 3 a19 a18 fun v0 =>
  c [(0, a0), (5, a5), (18, a18), (19, a19), (20, v0)] k
theorem e219n5 (K : KTC) (k : KS) (a19 a18 a0 a5 : AV) (c : KN) (p : KV) : b219n5 K k a19 a18 a0 a5 c p = wReg Tryz.prog K [0, 5, 18, 19, 20] o219n5 [(19, a19), (18, a18), (0, a0), (5, a5)] k c p := by unfold b219n5; simp only [xLss_eq]; kernel_rfl
noncomputable def s219n5 (K : KTC) (e : Env) (k : KS) (c : KN) (p : KV) : Kr := gt e 19 fun a19 => gt e 18 fun a18 => gt e 0 fun a0 => gt e 5 fun a5 => b219n5 K k a19 a18 a0 a5 c p
theorem p219n5 (K : KTC) (K' : KT) (hK : CSound K K') : FitsC Tryz.prog K' (.reg (s219n5 K)) (.reg o219n5 [0, 5, 18, 19, 20]) := fun e k c p y h => by
  obtain ⟨a19, h19, h⟩ := gt_some h
  obtain ⟨a18, h18, h⟩ := gt_some h
  obtain ⟨a0, h0, h⟩ := gt_some h
  obtain ⟨a5, h5, h⟩ := gt_some h
  exact wreg_fit hK (by decide +kernel) (keep_cons h19 (keep_cons h18 (keep_cons h0 (keep_cons h5 (keep_nil))))) (e219n5 K k a19 a18 a0 a5 c p) h
def o219n6 : Plan := [(0, ⟨(some 21), none, (.q (.mov (.t 0)))⟩, 0), (1, ⟨(some 22), none, (.q (.nchk (.t 21)))⟩, 0), (2, ⟨(some 23), none, (.q (.fld 0 0 (.t 22)))⟩, 0), (3, ⟨(some 24), none, (.rd (.ld false 1 (.t 23)))⟩, 0), (4, ⟨(some 25), none, (.q (.mov (.t 0)))⟩, 0), (5, ⟨(some 26), none, (.q (.nchk (.t 25)))⟩, 0), (6, ⟨(some 27), none, (.q (.fld 1 1 (.t 26)))⟩, 0), (7, ⟨(some 28), none, (.rd (.ld false 1 (.t 27)))⟩, 0), (8, ⟨(some 29), none, (.q (.bin .quo 3 (.t 28) (.k (.int .i64 8))))⟩, 0), (9, ⟨(some 30), none, (.q (.ixs 1 (.t 24) (.t 29)))⟩, 0), (10, ⟨(some 31), none, (.rd (.ld false 1 (.t 30)))⟩, 0), (11, ⟨(some 32), none, (.q (.mov (.t 0)))⟩, 0), (12, ⟨(some 33), none, (.q (.nchk (.t 32)))⟩, 0), (13, ⟨(some 34), none, (.q (.fld 1 1 (.t 33)))⟩, 0), (14, ⟨(some 35), none, (.rd (.ld false 1 (.t 34)))⟩, 0), (15, ⟨(some 36), none, (.q (.bin .rem 3 (.t 35) (.k (.int .i64 8))))⟩, 0), (16, ⟨(some 37), none, (.q (.bin .sub 3 (.k (.int .i64 7)) (.t 36)))⟩, 0), (17, ⟨(some 38), none, (.q (.bin .shr 5 (.t 31) (.t 37)))⟩, 0), (18, ⟨(some 39), none, (.q (.bin .and 5 (.t 38) (.k (.int .u8 1))))⟩, 0), (19, ⟨(some 6), none, (.q (.mov (.t 39)))⟩, 0)]
noncomputable def b219n6 (K : KTC) (k : KS) (a0 a5 a18 a19 : AV) (c : KN) (p : KV) : Kr :=
  xLdf k.t 0 0 false 1 a0 fun v0 =>
  xLdf k.t 1 1 false 1 a0 fun v1 =>
  xQuo 3 v1 (.sc (.int .i64 8)) fun v2 =>
  xIxl k.t 1 false 1 v0 v2 fun v3 =>
  xLdf k.t 1 1 false 1 a0 fun v4 =>
  xRem 3 v4 (.sc (.int .i64 8)) fun v5 =>
  xSub 3 (.sc (.int .i64 7)) v5 fun v6 =>
  xShr 5 v3 v6 fun v7 =>
  xAnd 5 v7 (.sc (.int .u8 1)) fun v8 =>
  c [(0, a0), (5, a5), (6, v8), (18, a18), (19, a19)] k
theorem e219n6 (K : KTC) (k : KS) (a0 a5 a18 a19 : AV) (c : KN) (p : KV) : b219n6 K k a0 a5 a18 a19 c p = wLive Tryz.prog K [0, 5, 6, 18, 19] o219n6 [(0, a0), (5, a5), (18, a18), (19, a19)] k k.t [] c p := by unfold b219n6; simp only [xAnd_eq, xShr_eq, xSub_eq, xRem_eq, xIxl_eq, xQuo_eq, xLdf_eq]; kernel_rfl
noncomputable def s219n6 (K : KTC) (e : Env) (k : KS) (c : KN) (p : KV) : Kr := gt e 0 fun a0 => gt e 5 fun a5 => gt e 18 fun a18 => gt e 19 fun a19 => b219n6 K k a0 a5 a18 a19 c p
theorem p219n6 (K : KTC) (K' : KT) (hK : CSound K K') : FitsC Tryz.prog K' (.reg (s219n6 K)) (.draw o219n6 [0, 5, 6, 18, 19]) := fun e k c p y h => by
  obtain ⟨a0, h0, h⟩ := gt_some h
  obtain ⟨a5, h5, h⟩ := gt_some h
  obtain ⟨a18, h18, h⟩ := gt_some h
  obtain ⟨a19, h19, h⟩ := gt_some h
  exact wdraw_fit hK (by decide +kernel) (keep_cons h0 (keep_cons h5 (keep_cons h18 (keep_cons h19 (keep_nil))))) (e219n6 K k a0 a5 a18 a19 c p) h
def o219n7 : List RI := [⟨(some 40), none, (.q (.mov (.t 5)))⟩, ⟨(some 41), none, (.q (.bin .shl 39 (.t 40) (.k (.int .u64 1))))⟩, ⟨(some 42), none, (.q (.mov (.t 6)))⟩, ⟨(some 43), none, (.q (.conv 5 39 (.t 42)))⟩, ⟨(some 44), none, (.q (.bin .or 39 (.t 41) (.t 43)))⟩, ⟨(some 5), none, (.q (.mov (.t 44)))⟩]
noncomputable def b219n7 (K : KTC) (k : KS) (a5 a6 a0 a18 a19 : AV) (c : KN) (p : KV) : Kr :=
  xShl 39 a5 (.sc (.int .u64 1)) fun v0 =>
  xConv 5 39 a6 fun v1 =>
  xOr 39 v0 v1 fun v2 =>
  c [(0, a0), (5, v2), (18, a18), (19, a19)] k
theorem e219n7 (K : KTC) (k : KS) (a5 a6 a0 a18 a19 : AV) (c : KN) (p : KV) : b219n7 K k a5 a6 a0 a18 a19 c p = wReg Tryz.prog K [0, 5, 18, 19] o219n7 [(5, a5), (6, a6), (0, a0), (18, a18), (19, a19)] k c p := by unfold b219n7; simp only [xOr_eq, xConv_eq, xShl_eq]; kernel_rfl
noncomputable def s219n7 (K : KTC) (e : Env) (k : KS) (c : KN) (p : KV) : Kr := gt e 5 fun a5 => gt e 6 fun a6 => gt e 0 fun a0 => gt e 18 fun a18 => gt e 19 fun a19 => b219n7 K k a5 a6 a0 a18 a19 c p
theorem p219n7 (K : KTC) (K' : KT) (hK : CSound K K') : FitsC Tryz.prog K' (.reg (s219n7 K)) (.reg o219n7 [0, 5, 18, 19]) := fun e k c p y h => by
  obtain ⟨a5, h5, h⟩ := gt_some h
  obtain ⟨a6, h6, h⟩ := gt_some h
  obtain ⟨a0, h0, h⟩ := gt_some h
  obtain ⟨a18, h18, h⟩ := gt_some h
  obtain ⟨a19, h19, h⟩ := gt_some h
  exact wreg_fit hK (by decide +kernel) (keep_cons h5 (keep_cons h6 (keep_cons h0 (keep_cons h18 (keep_cons h19 (keep_nil)))))) (e219n7 K k a5 a6 a0 a18 a19 c p) h
def o219n8 : List RI := [⟨(some 45), none, (.q (.mov (.t 0)))⟩, ⟨(some 46), none, (.q (.nchk (.t 45)))⟩, ⟨(some 47), none, (.q (.fld 1 1 (.t 46)))⟩, ⟨(some 48), none, (.rd (.ld false 1 (.t 47)))⟩, ⟨(some 49), none, (.q (.bin .add 3 (.t 48) (.k (.int .i64 1))))⟩, ⟨(some 50), none, (.q (.nchk (.t 45)))⟩, ⟨(some 51), none, (.q (.fld 1 1 (.t 50)))⟩, ⟨none, none, (.ac (.st 1 (.t 51) (.t 49)))⟩]
noncomputable def b219n8 (K : KTC) (k : KS) (a0 a5 a18 a19 : AV) (c : KN) (p : KV) : Kr :=
  xLdf k.t 1 1 false 1 a0 fun v0 =>
  xAdd 3 v0 (.sc (.int .i64 1)) fun v1 =>
  xStf k 1 1 1 a0 v1 (fun v2 k2 =>
  c [(0, a0), (5, a5), (18, a18), (19, a19)] k2) (p)
theorem e219n8 (K : KTC) (k : KS) (a0 a5 a18 a19 : AV) (c : KN) (p : KV) : b219n8 K k a0 a5 a18 a19 c p = wReg Tryz.prog K [0, 5, 18, 19] o219n8 [(0, a0), (5, a5), (18, a18), (19, a19)] k c p := by unfold b219n8; simp only [xStf_eq, xAdd_eq, xLdf_eq]; kernel_rfl
noncomputable def s219n8 (K : KTC) (e : Env) (k : KS) (c : KN) (p : KV) : Kr := gt e 0 fun a0 => gt e 5 fun a5 => gt e 18 fun a18 => gt e 19 fun a19 => b219n8 K k a0 a5 a18 a19 c p
theorem p219n8 (K : KTC) (K' : KT) (hK : CSound K K') : FitsC Tryz.prog K' (.reg (s219n8 K)) (.reg o219n8 [0, 5, 18, 19]) := fun e k c p y h => by
  obtain ⟨a0, h0, h⟩ := gt_some h
  obtain ⟨a5, h5, h⟩ := gt_some h
  obtain ⟨a18, h18, h⟩ := gt_some h
  obtain ⟨a19, h19, h⟩ := gt_some h
  exact wreg_fit hK (by decide +kernel) (keep_cons h0 (keep_cons h5 (keep_cons h18 (keep_cons h19 (keep_nil))))) (e219n8 K k a0 a5 a18 a19 c p) h
def o219n9 : List RI := [⟨(some 52), none, (.q (.bin .add 3 (.t 19) (.k (.int .i64 1))))⟩, ⟨(some 19), none, (.q (.mov (.t 52)))⟩]
noncomputable def b219n9 (K : KTC) (k : KS) (a19 a0 a5 a18 : AV) (c : KN) (p : KV) : Kr :=
  xAdd 3 a19 (.sc (.int .i64 1)) fun v0 =>
  c [(0, a0), (5, a5), (18, a18), (19, v0)] k
theorem e219n9 (K : KTC) (k : KS) (a19 a0 a5 a18 : AV) (c : KN) (p : KV) : b219n9 K k a19 a0 a5 a18 c p = wReg Tryz.prog K [0, 5, 18, 19] o219n9 [(19, a19), (0, a0), (5, a5), (18, a18)] k c p := by unfold b219n9; simp only [xAdd_eq]; kernel_rfl
noncomputable def s219n9 (K : KTC) (e : Env) (k : KS) (c : KN) (p : KV) : Kr := gt e 19 fun a19 => gt e 0 fun a0 => gt e 5 fun a5 => gt e 18 fun a18 => b219n9 K k a19 a0 a5 a18 c p
theorem p219n9 (K : KTC) (K' : KT) (hK : CSound K K') : FitsC Tryz.prog K' (.reg (s219n9 K)) (.reg o219n9 [0, 5, 18, 19]) := fun e k c p y h => by
  obtain ⟨a19, h19, h⟩ := gt_some h
  obtain ⟨a0, h0, h⟩ := gt_some h
  obtain ⟨a5, h5, h⟩ := gt_some h
  obtain ⟨a18, h18, h⟩ := gt_some h
  exact wreg_fit hK (by decide +kernel) (keep_cons h19 (keep_cons h0 (keep_cons h5 (keep_cons h18 (keep_nil))))) (e219n9 K k a19 a0 a5 a18 c p) h
def o219n10 : List RI := [⟨(some 53), none, (.q (.mov (.t 5)))⟩, ⟨(some 4), none, (.q (.mov (.t 53)))⟩]
noncomputable def b219n10 (K : KTC) (k : KS) (a5 : AV) (c : KN) (p : KV) : Kr :=
  c [(4, a5)] k
theorem e219n10 (K : KTC) (k : KS) (a5 : AV) (c : KN) (p : KV) : b219n10 K k a5 c p = wReg Tryz.prog K [4] o219n10 [(5, a5)] k c p := by unfold b219n10; kernel_rfl
noncomputable def s219n10 (K : KTC) (e : Env) (k : KS) (c : KN) (p : KV) : Kr := gt e 5 fun a5 => b219n10 K k a5 c p
theorem p219n10 (K : KTC) (K' : KT) (hK : CSound K K') : FitsC Tryz.prog K' (.reg (s219n10 K)) (.reg o219n10 [4]) := fun e k c p y h => by
  obtain ⟨a5, h5, h⟩ := gt_some h
  exact wreg_fit hK (by decide +kernel) (keep_cons h5 (keep_nil)) (e219n10 K k a5 c p) h
def r219 : RFn := ⟨2, .seq (.reg o219n0 [0, 1]) (.seq (.reg o219n1 [0, 1]) (.seq (.draw o219n2 [0, 1]) (.seq (.reg o219n3 [0, 1, 5]) (.seq (.seq (.reg o219n4 [0, 5, 18, 19]) (.block 0 (.loop [0, 5, 18, 19] (.seq (.reg o219n5 [0, 5, 18, 19, 20]) (.seq (.cond (.t 20) (.skip) (.exit 0)) (.seq (.block 1 (.seq (.draw o219n6 [0, 5, 6, 18, 19]) (.seq (.reg o219n7 [0, 5, 18, 19]) (.reg o219n8 [0, 5, 18, 19])))) (.reg o219n9 [0, 5, 18, 19]))))))) (.seq (.reg o219n10 [4]) (.ret)))))), [.tmp 4], []⟩
noncomputable def q219 (K : KTC) : FK := .seq (.reg (s219n0 K)) (.seq (.reg (s219n1 K)) (.seq (.reg (s219n2 K)) (.seq (.reg (s219n3 K)) (.seq (.seq (.reg (s219n4 K)) (.block 0 (.loop [0, 5, 18, 19] (.seq (.reg (s219n5 K)) (.seq (.cond (.t 20) (.skip) (.exit 0)) (.seq (.block 1 (.seq (.reg (s219n6 K)) (.seq (.reg (s219n7 K)) (.reg (s219n8 K))))) (.reg (s219n9 K)))))))) (.seq (.reg (s219n10 K)) (.ret))))))
theorem ok219 (K : KTC) (K' : KT) (hK : CSound K K') : FitsC Tryz.prog K' (q219 K) r219.code := hs (p219n0 K _ hK) (hs (p219n1 K _ hK) (hs (p219n2 K _ hK) (hs (p219n3 K _ hK) (hs (hs (p219n4 K _ hK) (hb (hl (by decide +kernel) (hs (p219n5 K _ hK) (hs (hc (hk) (hx)) (hs (hb (hs (p219n6 K _ hK) (hs (p219n7 K _ hK) (p219n8 K _ hK)))) (p219n9 K _ hK))))))) (hs (p219n10 K _ hK) (hr))))))
noncomputable def g219 : HFn Tryz.prog := ⟨r219, q219, ok219⟩
theorem c219 : chkF Tryz.prog Tryz.f219 r219 = true := by decide +kernel

/-- doubletake/packet.readInput -/
def r220 : RFn := ⟨1,
  .seq (
  .reg [⟨(some 2), none, (.al (.alloc (.agg [1, 1, 1] [(.sc (.int .i64 0)), (.sc (.int .i64 0)), (.sc (.int .i64 0))])))⟩] [0, 2]) (
  .seq (
  .reg [⟨(some 3), none, (.q (.mov (.t 0)))⟩,
    ⟨(some 4), none, (.ac (.callf 219 [(.t 3), (.k (.int .i64 8))]))⟩,
    ⟨(some 5), none, (.q (.conv 39 3 (.t 4)))⟩,
    ⟨(some 6), none, (.q (.mov (.t 0)))⟩,
    ⟨(some 7), none, (.ac (.callf 229 [(.t 6), (.k (.int .i64 8))]))⟩,
    ⟨(some 8), none, (.q (.mov (.t 0)))⟩,
    ⟨(some 9), none, (.ac (.callf 229 [(.t 8), (.k (.int .i64 8))]))⟩,
    ⟨(some 10), none, (.q (.bld (.agg [1, 1, 1] [(.sc (.int .i64 0)), (.sc (.int .i64 0)), (.sc (.int .i64 0))]) [(0, (.t 5)), (1, (.t 7)), (2, (.t 9))]))⟩,
    ⟨none, none, (.ac (.st 3 (.t 2) (.t 10)))⟩] [2]) (
  .ret)),
  [.cell 2 true 3], [2]⟩
noncomputable def g220 : HFn Tryz.prog := ⟨r220, fun K => wslow Tryz.prog K r220.code, fun _ _ hK => wslow_fits hK _ (by decide +kernel)⟩
theorem c220 : chkF Tryz.prog Tryz.f220 r220 = true := by decide +kernel

/-- doubletake/packet.readRows -/
def r221 : RFn := ⟨2,
  .seq (
  .reg [⟨(some 6), none, (.q (.mov (.t 1)))⟩,
    ⟨(some 7), none, (.q (.mov (.t 0)))⟩,
    ⟨(some 8), none, (.ac (.callf 219 [(.t 7), (.k (.int .i64 10))]))⟩,
    ⟨(some 9), none, (.q (.conv 39 3 (.t 8)))⟩,
    ⟨(some 10), none, (.q (.nchk (.t 6)))⟩,
    ⟨(some 11), none, (.q (.fld 7 7 (.t 10)))⟩,
    ⟨none, none, (.ac (.st 1 (.t 11) (.t 9)))⟩] [0, 1]) (
  .seq (
  .reg [⟨(some 12), none, (.q (.mov (.t 1)))⟩,
    ⟨(some 13), none, (.q (.mov (.t 0)))⟩,
    ⟨(some 14), none, (.ac (.callf 219 [(.t 13), (.k (.int .i64 4))]))⟩,
    ⟨(some 15), none, (.q (.conv 39 3 (.t 14)))⟩,
    ⟨(some 16), none, (.q (.nchk (.t 12)))⟩,
    ⟨(some 17), none, (.q (.fld 9 9 (.t 16)))⟩,
    ⟨none, none, (.ac (.st 1 (.t 17) (.t 15)))⟩] [0, 1]) (
  .seq (
  .reg [⟨(some 18), none, (.q (.mov (.t 0)))⟩,
    ⟨(some 19), none, (.ac (.callf 219 [(.t 18), (.k (.int .i64 4))]))⟩,
    ⟨(some 20), none, (.q (.conv 39 3 (.t 19)))⟩,
    ⟨(some 21), none, (.q (.mov (.k (.int .i64 0))))⟩] [0, 1, 20, 21]) (
  .block 0 (
   .loop [0, 1, 20, 21] (
    .free [5] (
    .seq (
    .reg [⟨(some 22), none, (.q (.bin .lss 3 (.t 21) (.t 20)))⟩] [0, 1, 5, 20, 21, 22]) (
    .seq (
    .cond (.t 22) (
     .skip) (
     .exit 0)) (
    .seq (
    .block 1 (
     .seq (
     .reg [⟨(some 4), none, (.q (.mov .nils))⟩] [0, 1, 4, 20, 21]) (
     .seq (
     .seq (
     .reg [⟨(some 23), none, (.q (.mov (.t 1)))⟩,
       ⟨(some 24), none, (.q (.nchk (.t 23)))⟩,
       ⟨(some 25), none, (.q (.fld 9 9 (.t 24)))⟩,
       ⟨(some 26), none, (.rd (.ld false 1 (.t 25)))⟩,
       ⟨(some 27), none, (.q (.mov (.k (.int .i64 0))))⟩] [0, 1, 4, 20, 21, 26, 27]) (
     .block 2 (
      .loop [0, 1, 4, 20, 21, 26, 27] (
       .free [5] (
       .seq (
       .reg [⟨(some 28), none, (.q (.bin .lss 3 (.t 27) (.t 26)))⟩] [0, 1, 4, 5, 20, 21, 26, 27, 28]) (
       .seq (
       .cond (.t 28) (
        .skip) (
        .exit 2)) (
       .seq (
       .block 3 (
        .seq (
        .reg [⟨(some 29), none, (.q (.mov (.t 0)))⟩,
          ⟨(some 30), none, (.ac (.callf 219 [(.t 29), (.k (.int .i64 1))]))⟩,
          ⟨(some 31), none, (.q (.bin .eql 39 (.t 30) (.k (.int .u64 1))))⟩,
          ⟨(some 32), none, (.q (.bld (.agg [1, 3] [(.sc (.bool false)), (.agg [1, 1, 1] [(.sc (.int .i64 0)), (.sc (.int .i64 0)), (.sc (.int .i64 0))])]) [(0, (.t 31))]))⟩,
          ⟨(some 5), none, (.al (.alloc (.agg [1, 3] [(.sc (.bool false)), (.agg [1, 1, 1] [(.sc (.int .i64 0)), (.sc (.int .i64 0)), (.sc (.int .i64 0))])])))⟩,
          ⟨none, none, (.ac (.st 4 (.t 5) (.t 32)))⟩] [0, 1, 4, 5, 20, 21, 26, 27]) (
        .seq (
        .seq (
        .reg [⟨(some 33), none, (.q (.fld 0 0 (.t 5)))⟩,
          ⟨(some 34), none, (.rd (.ld false 1 (.t 33)))⟩] [0, 1, 4, 5, 20, 21, 26, 27, 34]) (
        .cond (.t 34) (
         .reg [⟨(some 35), none, (.q (.mov (.t 0)))⟩,
           ⟨(some 36), none, (.ac (.callf 220 [(.t 35)]))⟩,
           ⟨(some 37), none, (.q (.fld 1 1 (.t 5)))⟩,
           ⟨none, none, (.ac (.st 3 (.t 37) (.t 36)))⟩] [0, 1, 4, 5, 20, 21, 26, 27]) (
         .skip))) (
        .reg [⟨(some 38), none, (.q (.mov (.t 4)))⟩,
          ⟨(some 39), none, (.rd (.ld true 4 (.t 5)))⟩,
          ⟨(some 40), none, (.al (.bldS 4 1 (.agg [1, 3] [(.sc (.bool false)), (.agg [1, 1, 1] [(.sc (.int .i64 0)), (.sc (.int .i64 0)), (.sc (.int .i64 0))])]) [(0, (.t 39))]))⟩,
          ⟨(some 41), none, (.ac (.app true 4 32 (.t 38) (.t 40)))⟩,
          ⟨(some 4), none, (.q (.mov (.t 41)))⟩] [0, 1, 4, 5, 20, 21, 26, 27])))) (
       .reg [⟨(some 42), none, (.q (.bin .add 3 (.t 27) (.k (.int .i64 1))))⟩,
         ⟨(some 27), none, (.q (.mov (.t 42)))⟩] [0, 1, 4, 5, 20, 21, 26, 27])))))))) (
     .reg [⟨(some 43), none, (.q (.mov (.t 1)))⟩,
       ⟨(some 44), none, (.q (.mov (.t 1)))⟩,
       ⟨(some 45), none, (.q (.nchk (.t 44)))⟩,
       ⟨(some 46), none, (.q (.fld 10 10 (.t 45)))⟩,
       ⟨(some 47), none, (.rd (.ld false 1 (.t 46)))⟩,
       ⟨(some 48), none, (.q (.mov (.t 4)))⟩,
       ⟨(some 49), none, (.al (.bldS 1 1 (.slice none 0) [(0, (.t 48))]))⟩,
       ⟨(some 50), none, (.ac (.app true 1 24 (.t 47) (.t 49)))⟩,
       ⟨(some 51), none, (.q (.nchk (.t 43)))⟩,
       ⟨(some 52), none, (.q (.fld 10 10 (.t 51)))⟩,
       ⟨none, none, (.ac (.st 1 (.t 52) (.t 50)))⟩] [0, 1, 5, 20, 21])))) (
    .reg [⟨(some 53), none, (.q (.bin .add 3 (.t 21) (.k (.int .i64 1))))⟩,
      ⟨(some 21), none, (.q (.mov (.t 53)))⟩] [0, 1, 5, 20, 21]))))))))),
  [], [5]⟩
noncomputable def g221 : HFn Tryz.prog := ⟨r221, fun K => wslow Tryz.prog K r221.code, fun _ _ hK => wslow_fits hK _ (by decide +kernel)⟩
theorem c221 : chkF Tryz.prog Tryz.f221 r221 = true := by decide +kernel

/-- doubletake/step.brought -/
def r222 : RFn := ⟨3,
  .seq (
  .reg [⟨(some 6), none, (.q (.mov (.k (.int .i64 0))))⟩] [0, 1, 2]) (
  .seq (
  .reg [⟨(some 7), none, (.q (.mov (.t 1)))⟩,
    ⟨(some 8), none, (.q (.mov (.t 0)))⟩,
    ⟨(some 9), none, (.q (.mov (.t 2)))⟩,
    ⟨(some 10), none, (.q (.mm false [(.t 8), (.t 9)]))⟩,
    ⟨(some 11), none, (.q (.mm true [(.t 7), (.t 10)]))⟩,
    ⟨(some 6), none, (.q (.mov (.t 11)))⟩] [6]) (
  .ret)),
  [.tmp 6], []⟩
noncomputable def g222 : HFn Tryz.prog := ⟨r222, fun K => wslow Tryz.prog K r222.code, fun _ _ hK => wslow_fits hK _ (by decide +kernel)⟩
theorem c222 : chkF Tryz.prog Tryz.f222 r222 = true := by decide +kernel

/-- doubletake/rule.copied -/
def r223 : RFn := ⟨1,
  .seq (
  .reg [⟨(some 1), none, (.al (.box (.t 0)))⟩,
    ⟨(some 2), none, (.al (.alloc (.agg [12, 3, 1, 1, 1] [(.agg [1, 1, 1, 1, 1, 1, 1, 4, 1] [(.sc (.int .i64 0)), (.sc (.int .i64 0)), (.sc (.int .i64 0)), (.sc (.int .i64 0)), (.sc (.int .i64 0)), (.sc (.int .i64 0)), (.sc (.int .i64 0)), (.arr 1 (List.replicate 4 (.sc (.int .i64 0)))), (.sc (.int .i64 0))]), (.agg [1, 1, 1] [(.sc (.int .i64 0)), (.sc (.int .i64 0)), (.sc (.int .i64 0))]), (.sc (.int .u64 0)), (.sc (.int .i64 0)), (.slice none 0)])))⟩] [1, 2]) (
  .seq (
  .reg [⟨(some 3), none, (.q (.fld 4 17 (.t 1)))⟩,
    ⟨(some 4), none, (.rd (.ld false 1 (.t 3)))⟩,
    ⟨(some 5), none, (.ac (.callf 230 [(.t 4)]))⟩,
    ⟨(some 6), none, (.q (.fld 4 17 (.t 1)))⟩,
    ⟨none, none, (.ac (.st 1 (.t 6) (.t 5)))⟩] [1, 2]) (
  .seq (
  .reg [⟨(some 7), none, (.rd (.ld true 18 (.t 1)))⟩,
    ⟨none, none, (.ac (.st 18 (.t 2) (.t 7)))⟩] [1, 2]) (
  .ret))),
  [.cell 2 true 18], [1, 2]⟩
noncomputable def g223 : HFn Tryz.prog := ⟨r223, fun K => wslow Tryz.prog K r223.code, fun _ _ hK => wslow_fits hK _ (by decide +kernel)⟩
theorem c223 : chkF Tryz.prog Tryz.f223 r223 = true := by decide +kernel

/-- (*doubletake/rule.machine).run -/
def r224 : RFn := ⟨1,
  .seq (
  .reg [⟨(some 2), none, (.q (.mov (.k (.int .i64 0))))⟩] [0, 2]) (
  .block 0 (
   .loop [0, 2] (
    .seq (
    .seq (
    .draw [(0, ⟨(some 3), none, (.q (.mov (.t 0)))⟩, 0),
      (1, ⟨(some 4), none, (.q (.nchk (.t 3)))⟩, 0),
      (2, ⟨(some 5), none, (.q (.fld 2 19 (.t 4)))⟩, 0),
      (3, ⟨(some 6), none, (.rd (.ld false 1 (.t 5)))⟩, 0),
      (4, ⟨(some 7), none, (.q (.mov (.t 0)))⟩, 0),
      (5, ⟨(some 8), none, (.q (.nchk (.t 7)))⟩, 0),
      (6, ⟨(some 9), none, (.q (.fld 1 18 (.t 8)))⟩, 0),
      (7, ⟨(some 10), none, (.rd (.ld false 1 (.t 9)))⟩, 0),
      (8, ⟨(some 11), none, (.q (.len false (.t 10)))⟩, 0),
      (9, ⟨(some 12), none, (.q (.bin .lss 3 (.t 6) (.t 11)))⟩, 0)] [0, 2, 12]) (
    .cond (.t 12) (
     .skip) (
     .exit 0))) (
    .seq (
    .block 1 (
     .seq (
     .reg [⟨(some 15), none, (.q (.mov (.t 0)))⟩,
       ⟨(some 16), none, (.q (.mov (.t 2)))⟩,
       ⟨(some 17), none, (.q (.bin .lss 3 (.t 16) (.k (.int .i64 64))))⟩,
       ⟨(some 18), none, (.ac (.callf 231 [(.t 15), (.t 17), (.k (.int .i64 5))]))⟩] [0, 2]) (
     .draw [(1, ⟨(some 20), none, (.q (.mov (.t 0)))⟩, 0),
       (2, ⟨(some 21), none, (.q (.mov (.t 0)))⟩, 0),
       (3, ⟨(some 22), none, (.q (.nchk (.t 21)))⟩, 0),
       (4, ⟨(some 23), none, (.q (.fld 1 18 (.t 22)))⟩, 0),
       (5, ⟨(some 24), none, (.rd (.ld false 1 (.t 23)))⟩, 0),
       (6, ⟨(some 25), none, (.q (.mov (.t 0)))⟩, 0),
       (7, ⟨(some 26), none, (.q (.nchk (.t 25)))⟩, 0),
       (8, ⟨(some 27), none, (.q (.fld 2 19 (.t 26)))⟩, 0),
       (9, ⟨(some 28), none, (.rd (.ld false 1 (.t 27)))⟩, 0),
       (10, ⟨(some 29), none, (.q (.ixs 3 (.t 24) (.t 28)))⟩, 0),
       (11, ⟨(some 30), none, (.rd (.ld true 3 (.t 29)))⟩, 0),
       (12, ⟨(some 31), none, (.ac (.callf 232 [(.t 20), (.t 30)]))⟩, 0),
       (0, ⟨(some 19), none, (.q (.mov (.t 0)))⟩, 1),
       (13, ⟨(some 32), none, (.q (.nchk (.t 19)))⟩, 0),
       (14, ⟨(some 33), none, (.q (.fld 2 19 (.t 32)))⟩, 0),
       (15, ⟨none, none, (.ac (.st 1 (.t 33) (.t 31)))⟩, 0)] [0, 2]))) (
    .reg [⟨(some 13), none, (.q (.mov (.t 2)))⟩,
      ⟨(some 14), none, (.q (.bin .add 3 (.t 13) (.k (.int .i64 1))))⟩,
      ⟨(some 2), none, (.q (.mov (.t 14)))⟩] [0, 2]))))),
  [], []⟩
noncomputable def g224 : HFn Tryz.prog := ⟨r224, fun K => wslow Tryz.prog K r224.code, fun _ _ hK => wslow_fits hK _ (by decide +kernel)⟩
theorem c224 : chkF Tryz.prog Tryz.f224 r224 = true := by decide +kernel

/-- slices.Grow[[]doubletake/api.Cell,doubletake/api.Cell] -/
def r225 : RFn := ⟨2,
  .seq (
  .reg [⟨(some 4), none, (.q (.mov .nils))⟩] [0, 1]) (
  .seq (
  .seq (
  .reg [⟨(some 5), none, (.q (.mov (.t 1)))⟩,
    ⟨(some 6), none, (.q (.bin .lss 3 (.t 5) (.k (.int .i64 0))))⟩] [0, 1, 6]) (
  .cond (.t 6) (
   .reg [⟨(some 7), none, (.q (.mki 9 (.k (.string ⟨#[99, 97, 110, 110, 111, 116, 32, 98, 101, 32, 110, 101, 103, 97, 116, 105, 118, 101]⟩))))⟩,
     ⟨none, none, (.ac (.pan (.t 7)))⟩] [0, 1]) (
   .skip))) (
  .seq (
  .seq (
  .reg [⟨(some 8), none, (.q (.mov (.t 1)))⟩,
    ⟨(some 9), none, (.q (.mov (.t 0)))⟩,
    ⟨(some 10), none, (.q (.capn (.t 9)))⟩,
    ⟨(some 11), none, (.q (.mov (.t 0)))⟩,
    ⟨(some 12), none, (.q (.len false (.t 11)))⟩,
    ⟨(some 13), none, (.q (.bin .sub 3 (.t 10) (.t 12)))⟩,
    ⟨(some 14), none, (.q (.bin .sub 3 (.t 8) (.t 13)))⟩,
    ⟨(some 1), none, (.q (.mov (.t 14)))⟩] [0, 1]) (
  .seq (
  .reg [⟨(some 15), none, (.q (.mov (.t 1)))⟩,
    ⟨(some 16), none, (.q (.bin .gtr 3 (.t 15) (.k (.int .i64 0))))⟩] [0, 1, 16]) (
  .cond (.t 16) (
   .reg [⟨(some 17), none, (.q (.mov (.t 0)))⟩,
     ⟨(some 18), none, (.q (.mov (.t 0)))⟩,
     ⟨(some 19), none, (.q (.capn (.t 18)))⟩,
     ⟨(some 20), none, (.q (.slc 4 (.t 17) none (some (.t 19))))⟩,
     ⟨(some 21), none, (.q (.mov (.t 1)))⟩,
     ⟨(some 22), none, (.ac (.appz 4 32 (.agg [1, 3] [(.sc (.bool false)), (.agg [1, 1, 1] [(.sc (.int .i64 0)), (.sc (.int .i64 0)), (.sc (.int .i64 0))])]) (.t 20) (.t 21)))⟩,
     ⟨(some 23), none, (.q (.mov (.t 0)))⟩,
     ⟨(some 24), none, (.q (.len false (.t 23)))⟩,
     ⟨(some 25), none, (.q (.slc 4 (.t 22) none (some (.t 24))))⟩,
     ⟨(some 0), none, (.q (.mov (.t 25)))⟩] [0]) (
   .skip)))) (
  .seq (
  .reg [⟨(some 26), none, (.q (.mov (.t 0)))⟩,
    ⟨(some 4), none, (.q (.mov (.t 26)))⟩] [4]) (
  .ret)))),
  [.tmp 4], []⟩
noncomputable def g225 : HFn Tryz.prog := ⟨r225, fun K => wslow Tryz.prog K r225.code, fun _ _ hK => wslow_fits hK _ (by decide +kernel)⟩
theorem c225 : chkF Tryz.prog Tryz.f225 r225 = true := by decide +kernel

/-- doubletake/trap.Must -/
def r227 : RFn := ⟨3,
  .seq (
  .reg [⟨(some 6), none, (.q (.mov (.t 0)))⟩,
    ⟨(some 7), none, (.q (.un .not (.t 6)))⟩] [1, 2, 7]) (
  .cond (.t 7) (
   .reg [⟨(some 8), none, (.q (.mov (.t 1)))⟩,
     ⟨(some 9), none, (.q (.mov (.t 2)))⟩,
     ⟨(some 10), none, (.ac (.callf 234 [(.t 8), (.t 9)]))⟩] []) (
   .skip)),
  [], []⟩
noncomputable def g227 : HFn Tryz.prog := ⟨r227, fun K => wslow Tryz.prog K r227.code, fun _ _ hK => wslow_fits hK _ (by decide +kernel)⟩
theorem c227 : chkF Tryz.prog Tryz.f227 r227 = true := by decide +kernel

/-! (*doubletake/bits.Reader).Left -/
def o228n0 : List RI := [⟨(some 2), none, (.q (.mov (.k (.int .i64 0))))⟩]
noncomputable def b228n0 (K : KTC) (k : KS) (a0 : AV) (c : KN) (p : KV) : Kr :=
  c [(0, a0)] k
theorem e228n0 (K : KTC) (k : KS) (a0 : AV) (c : KN) (p : KV) : b228n0 K k a0 c p = wReg Tryz.prog K [0] o228n0 [(0, a0)] k c p := by unfold b228n0; kernel_rfl
noncomputable def s228n0 (K : KTC) (e : Env) (k : KS) (c : KN) (p : KV) : Kr := gt e 0 fun a0 => b228n0 K k a0 c p
theorem p228n0 (K : KTC) (K' : KT) (hK : CSound K K') : FitsC Tryz.prog K' (.reg (s228n0 K)) (.reg o228n0 [0]) := fun e k c p y h => by
  obtain ⟨a0, h0, h⟩ := gt_some h
  exact wreg_fit hK (by decide +kernel) (keep_cons h0 (keep_nil)) (e228n0 K k a0 c p) h
def o228n1 : Plan := [(0, ⟨(some 3), none, (.q (.mov (.t 0)))⟩, 0), (1, ⟨(some 4), none, (.q (.nchk (.t 3)))⟩, 0), (2, ⟨(some 5), none, (.q (.fld 0 0 (.t 4)))⟩, 0), (3, ⟨(some 6), none, (.rd (.ld false 1 (.t 5)))⟩, 0), (4, ⟨(some 7), none, (.q (.len false (.t 6)))⟩, 0), (5, ⟨(some 8), none, (.q (.bin .mul 3 (.k (.int .i64 8)) (.t 7)))⟩, 0), (6, ⟨(some 9), none, (.q (.mov (.t 0)))⟩, 0), (7, ⟨(some 10), none, (.q (.nchk (.t 9)))⟩, 0), (8, ⟨(some 11), none, (.q (.fld 1 1 (.t 10)))⟩, 0), (9, ⟨(some 12), none, (.rd (.ld false 1 (.t 11)))⟩, 0), (10, ⟨(some 13), none, (.q (.bin .sub 3 (.t 8) (.t 12)))⟩, 0), (11, ⟨(some 2), none, (.q (.mov (.t 13)))⟩, 0)]
noncomputable def b228n1 (K : KTC) (k : KS) (a0 : AV) (c : KN) (p : KV) : Kr :=
  xLdf k.t 0 0 false 1 a0 fun v0 =>
  xLen v0 fun v1 =>
  xMul 3 (.sc (.int .i64 8)) v1 fun v2 =>
  xLdf k.t 1 1 false 1 a0 fun v3 =>
  xSub 3 v2 v3 fun v4 =>
  c [(2, v4)] k
theorem e228n1 (K : KTC) (k : KS) (a0 : AV) (c : KN) (p : KV) : b228n1 K k a0 c p = wLive Tryz.prog K [2] o228n1 [(0, a0)] k k.t [] c p := by unfold b228n1; simp only [xSub_eq, xMul_eq, xLen_eq, xLdf_eq]; kernel_rfl
noncomputable def s228n1 (K : KTC) (e : Env) (k : KS) (c : KN) (p : KV) : Kr := gt e 0 fun a0 => b228n1 K k a0 c p
theorem p228n1 (K : KTC) (K' : KT) (hK : CSound K K') : FitsC Tryz.prog K' (.reg (s228n1 K)) (.draw o228n1 [2]) := fun e k c p y h => by
  obtain ⟨a0, h0, h⟩ := gt_some h
  exact wdraw_fit hK (by decide +kernel) (keep_cons h0 (keep_nil)) (e228n1 K k a0 c p) h
def r228 : RFn := ⟨1, .seq (.reg o228n0 [0]) (.seq (.draw o228n1 [2]) (.ret)), [.tmp 2], []⟩
noncomputable def q228 (K : KTC) : FK := .seq (.reg (s228n0 K)) (.seq (.reg (s228n1 K)) (.ret))
theorem ok228 (K : KTC) (K' : KT) (hK : CSound K K') : FitsC Tryz.prog K' (q228 K) r228.code := hs (p228n0 K _ hK) (hs (p228n1 K _ hK) (hr))
noncomputable def g228 : HFn Tryz.prog := ⟨r228, q228, ok228⟩
theorem c228 : chkF Tryz.prog Tryz.f228 r228 = true := by decide +kernel

/-- (*doubletake/bits.Reader).Signed -/
def r229 : RFn := ⟨2,
  .seq (
  .reg [⟨(some 4), none, (.q (.mov (.k (.int .i64 0))))⟩] [0, 1]) (
  .seq (
  .reg [⟨(some 6), none, (.q (.mov (.t 1)))⟩,
    ⟨(some 7), none, (.ac (.callf 161 [(.t 6)]))⟩,
    ⟨(some 1), none, (.q (.mov (.t 7)))⟩] [0, 1]) (
  .seq (
  .seq (
  .reg [⟨(some 8), none, (.q (.mov (.t 1)))⟩,
    ⟨(some 9), none, (.q (.bin .eql 3 (.t 8) (.k (.int .i64 0))))⟩] [0, 1, 9]) (
  .cond (.t 9) (
   .seq (
   .reg [⟨(some 4), none, (.q (.mov (.k (.int .i64 0))))⟩] [4]) (
   .ret)) (
   .skip))) (
  .seq (
  .reg [⟨(some 10), none, (.q (.mov (.t 1)))⟩,
    ⟨(some 11), none, (.q (.bin .sub 3 (.k (.int .i64 64)) (.t 10)))⟩,
    ⟨(some 5), none, (.q (.mov (.t 11)))⟩] [0, 1, 5]) (
  .seq (
  .reg [⟨(some 12), none, (.q (.mov (.t 0)))⟩,
    ⟨(some 13), none, (.q (.mov (.t 1)))⟩,
    ⟨(some 14), none, (.ac (.callf 219 [(.t 12), (.t 13)]))⟩,
    ⟨(some 15), none, (.q (.mov (.t 5)))⟩,
    ⟨(some 16), none, (.q (.bin .shl 39 (.t 14) (.t 15)))⟩,
    ⟨(some 17), none, (.q (.conv 39 3 (.t 16)))⟩,
    ⟨(some 18), none, (.q (.mov (.t 5)))⟩,
    ⟨(some 19), none, (.q (.bin .shr 3 (.t 17) (.t 18)))⟩,
    ⟨(some 4), none, (.q (.mov (.t 19)))⟩] [4]) (
  .ret))))),
  [.tmp 4], []⟩
noncomputable def g229 : HFn Tryz.prog := ⟨r229, fun K => wslow Tryz.prog K r229.code, fun _ _ hK => wslow_fits hK _ (by decide +kernel)⟩
theorem c229 : chkF Tryz.prog Tryz.f229 r229 = true := by decide +kernel

/-- slices.Clone[[]doubletake/api.Body,doubletake/api.Body] -/
def r230 : RFn := ⟨1,
  .seq (
  .reg [⟨(some 2), none, (.q (.mov .nils))⟩] [0]) (
  .seq (
  .seq (
  .reg [⟨(some 3), none, (.q (.mov (.t 0)))⟩,
    ⟨(some 4), none, (.q (.nil 1 false (.t 3)))⟩] [0, 4]) (
  .cond (.t 4) (
   .seq (
   .reg [⟨(some 2), none, (.q (.mov .nils))⟩] [2]) (
   .ret)) (
   .skip))) (
  .seq (
  .reg [⟨(some 5), none, (.al (.bldS 12 0 (.agg [1, 1, 1, 1, 1, 1, 1, 4, 1] [(.sc (.int .i64 0)), (.sc (.int .i64 0)), (.sc (.int .i64 0)), (.sc (.int .i64 0)), (.sc (.int .i64 0)), (.sc (.int .i64 0)), (.sc (.int .i64 0)), (.arr 1 (List.replicate 4 (.sc (.int .i64 0)))), (.sc (.int .i64 0))]) []))⟩,
    ⟨(some 6), none, (.q (.mov (.t 0)))⟩,
    ⟨(some 7), none, (.ac (.app false 12 96 (.t 5) (.t 6)))⟩,
    ⟨(some 2), none, (.q (.mov (.t 7)))⟩] [2]) (
  .ret))),
  [.tmp 2], []⟩
noncomputable def g230 : HFn Tryz.prog := ⟨r230, fun K => wslow Tryz.prog K r230.code, fun _ _ hK => wslow_fits hK _ (by decide +kernel)⟩
theorem c230 : chkF Tryz.prog Tryz.f230 r230 = true := by decide +kernel

/-- (*doubletake/rule.machine).must -/
def r231 : RFn := ⟨3,
  .reg [⟨(some 6), none, (.q (.mov (.t 1)))⟩,
    ⟨(some 7), none, (.q (.mov (.t 2)))⟩,
    ⟨(some 8), none, (.q (.mov (.t 0)))⟩,
    ⟨(some 9), none, (.q (.nchk (.t 8)))⟩,
    ⟨(some 10), none, (.q (.fld 2 19 (.t 9)))⟩,
    ⟨(some 11), none, (.rd (.ld false 1 (.t 10)))⟩,
    ⟨(some 12), none, (.ac (.callf 227 [(.t 6), (.t 7), (.t 11)]))⟩] [],
  [], []⟩
noncomputable def g231 : HFn Tryz.prog := ⟨r231, fun K => wslow Tryz.prog K r231.code, fun _ _ hK => wslow_fits hK _ (by decide +kernel)⟩
theorem c231 : chkF Tryz.prog Tryz.f231 r231 = true := by decide +kernel

/-- (*doubletake/rule.machine).do -/
def r232 : RFn := ⟨2,
  .seq (
  .reg [⟨(some 3), none, (.al (.box (.t 1)))⟩,
    ⟨(some 4), none, (.q (.mov (.k (.int .i64 0))))⟩] [0, 3]) (
  .seq (
  .reg [⟨(some 5), none, (.q (.mov (.t 0)))⟩,
    ⟨(some 6), none, (.q (.fld 0 0 (.t 3)))⟩,
    ⟨(some 7), none, (.rd (.ld false 1 (.t 6)))⟩,
    ⟨(some 8), none, (.ac (.callf 157 [(.t 7), (.k (.int .i64 1)), (.k (.int .i64 13))]))⟩,
    ⟨(some 9), none, (.ac (.callf 231 [(.t 5), (.t 8), (.k (.int .i64 4))]))⟩] [0, 3]) (
  .seq (
  .reg [⟨(some 10), none, (.q (.mov (.t 0)))⟩,
    ⟨(some 11), none, (.rd (.ld true 3 (.t 3)))⟩,
    ⟨(some 12), none, (.ac (.callf 235 [(.t 10), (.t 11)]))⟩] [0, 3]) (
  .seq (
  .seq (
  .reg [⟨(some 13), none, (.q (.fld 0 0 (.t 3)))⟩,
    ⟨(some 14), none, (.rd (.ld false 1 (.t 13)))⟩] [0, 3, 14]) (
  .block 0 (
   .seq (
   .reg [⟨(some 19), none, (.q (.bin .eql 3 (.t 14) (.k (.int .i64 1))))⟩,
     ⟨(some 18), none, (.q (.mov (.t 19)))⟩] [0, 3, 14, 18]) (
   .cond (.t 18) (
    .reg [⟨(some 20), none, (.q (.mov (.t 0)))⟩,
      ⟨(some 21), none, (.q (.fld 1 1 (.t 3)))⟩,
      ⟨(some 22), none, (.rd (.ld false 1 (.t 21)))⟩,
      ⟨(some 23), none, (.q (.fld 2 2 (.t 3)))⟩,
      ⟨(some 24), none, (.rd (.ld false 1 (.t 23)))⟩,
      ⟨(some 25), none, (.ac (.callf 236 [(.t 20), (.t 22), (.t 24)]))⟩] [0, 3]) (
    .seq (
    .reg [⟨(some 27), none, (.q (.bin .eql 3 (.t 14) (.k (.int .i64 7))))⟩,
      ⟨(some 26), none, (.q (.mov (.t 27)))⟩] [0, 3, 14, 26]) (
    .cond (.t 26) (
     .draw [(3, ⟨(some 31), none, (.q (.mov (.t 0)))⟩, 0),
       (4, ⟨(some 32), none, (.q (.fld 2 2 (.t 3)))⟩, 0),
       (5, ⟨(some 33), none, (.rd (.ld false 1 (.t 32)))⟩, 0),
       (6, ⟨(some 34), none, (.ac (.callf 237 [(.t 31), (.t 33)]))⟩, 0),
       (0, ⟨(some 28), none, (.q (.mov (.t 0)))⟩, 1),
       (1, ⟨(some 29), none, (.q (.fld 1 1 (.t 3)))⟩, 1),
       (2, ⟨(some 30), none, (.rd (.ld false 1 (.t 29)))⟩, 1),
       (7, ⟨(some 35), none, (.ac (.callf 236 [(.t 28), (.t 30), (.t 34)]))⟩, 0)] [0, 3]) (
     .seq (
     .reg [⟨(some 37), none, (.q (.bin .eql 3 (.t 14) (.k (.int .i64 8))))⟩,
       ⟨(some 36), none, (.q (.mov (.t 37)))⟩] [0, 3, 14, 36]) (
     .cond (.t 36) (
      .draw [(3, ⟨(some 41), none, (.q (.mov (.t 0)))⟩, 0),
        (4, ⟨(some 42), none, (.q (.fld 2 2 (.t 3)))⟩, 0),
        (5, ⟨(some 43), none, (.rd (.ld false 1 (.t 42)))⟩, 0),
        (6, ⟨(some 44), none, (.ac (.callf 239 [(.t 41), (.t 43)]))⟩, 0),
        (0, ⟨(some 38), none, (.q (.mov (.t 0)))⟩, 1),
        (1, ⟨(some 39), none, (.q (.fld 1 1 (.t 3)))⟩, 1),
        (2, ⟨(some 40), none, (.rd (.ld false 1 (.t 39)))⟩, 1),
        (7, ⟨(some 45), none, (.ac (.callf 238 [(.t 38), (.t 40), (.t 44)]))⟩, 0)] [0, 3]) (
      .seq (
      .reg [⟨(some 47), none, (.q (.bin .eql 3 (.t 14) (.k (.int .i64 9))))⟩,
        ⟨(some 46), none, (.q (.mov (.t 47)))⟩] [0, 3, 14, 46]) (
      .cond (.t 46) (
       .seq (
       .reg [⟨(some 48), none, (.q (.mov (.t 0)))⟩,
         ⟨(some 49), none, (.q (.fld 1 1 (.t 3)))⟩,
         ⟨(some 50), none, (.rd (.ld false 1 (.t 49)))⟩,
         ⟨(some 51), none, (.ac (.callf 239 [(.t 48), (.t 50)]))⟩,
         ⟨(some 52), none, (.q (.bin .eql 3 (.t 51) (.k (.int .i64 0))))⟩] [0, 3, 52]) (
       .cond (.t 52) (
        .seq (
        .reg [⟨(some 53), none, (.q (.mov (.t 0)))⟩,
          ⟨(some 54), none, (.q (.fld 2 2 (.t 3)))⟩,
          ⟨(some 55), none, (.rd (.ld false 1 (.t 54)))⟩,
          ⟨(some 56), none, (.ac (.callf 240 [(.t 53), (.t 55)]))⟩,
          ⟨(some 4), none, (.q (.mov (.t 56)))⟩] [3, 4]) (
        .ret)) (
        .skip))) (
       .seq (
       .reg [⟨(some 58), none, (.q (.bin .eql 3 (.t 14) (.k (.int .i64 10))))⟩,
         ⟨(some 57), none, (.q (.mov (.t 58)))⟩] [0, 3, 14, 57]) (
       .cond (.t 57) (
        .seq (
        .reg [⟨(some 59), none, (.q (.mov (.t 0)))⟩,
          ⟨(some 60), none, (.q (.fld 2 2 (.t 3)))⟩,
          ⟨(some 61), none, (.rd (.ld false 1 (.t 60)))⟩,
          ⟨(some 62), none, (.ac (.callf 240 [(.t 59), (.t 61)]))⟩,
          ⟨(some 4), none, (.q (.mov (.t 62)))⟩] [3, 4]) (
        .ret)) (
        .seq (
        .reg [⟨(some 64), none, (.q (.bin .eql 3 (.t 14) (.k (.int .i64 13))))⟩,
          ⟨(some 63), none, (.q (.mov (.t 64)))⟩] [0, 3, 63]) (
        .cond (.t 63) (
         .seq (
         .reg [⟨(some 65), none, (.q (.mov (.t 0)))⟩,
           ⟨(some 66), none, (.q (.nchk (.t 65)))⟩,
           ⟨(some 67), none, (.q (.fld 1 18 (.t 66)))⟩,
           ⟨(some 68), none, (.rd (.ld false 1 (.t 67)))⟩,
           ⟨(some 69), none, (.q (.len false (.t 68)))⟩,
           ⟨(some 4), none, (.q (.mov (.t 69)))⟩] [3, 4]) (
         .ret)) (
         .reg [⟨(some 15), none, (.q (.mov (.t 0)))⟩,
           ⟨(some 16), none, (.rd (.ld true 3 (.t 3)))⟩,
           ⟨(some 17), none, (.ac (.callf 241 [(.t 15), (.t 16)]))⟩] [0, 3]))))))))))))))) (
  .seq (
  .reg [⟨(some 70), none, (.q (.mov (.t 0)))⟩,
    ⟨(some 71), none, (.q (.nchk (.t 70)))⟩,
    ⟨(some 72), none, (.q (.fld 2 19 (.t 71)))⟩,
    ⟨(some 73), none, (.rd (.ld false 1 (.t 72)))⟩,
    ⟨(some 74), none, (.q (.bin .add 3 (.t 73) (.k (.int .i64 1))))⟩,
    ⟨(some 4), none, (.q (.mov (.t 74)))⟩] [3, 4]) (
  .ret))))),
  [.tmp 4], [3]⟩
noncomputable def g232 : HFn Tryz.prog := ⟨r232, fun K => wslow Tryz.prog K r232.code, fun _ _ hK => wslow_fits hK _ (by decide +kernel)⟩
theorem c232 : chkF Tryz.prog Tryz.f232 r232 = true := by decide +kernel

/-- doubletake/trap.Throw -/
def r234 : RFn := ⟨2,
  .reg [⟨(some 4), none, (.q (.mov (.t 0)))⟩,
    ⟨(some 5), none, (.q (.mov (.t 1)))⟩,
    ⟨(some 6), none, (.q (.bld (.agg [1, 1] [(.sc (.int .i64 0)), (.sc (.int .i64 0))]) [(0, (.t 4)), (1, (.t 5))]))⟩,
    ⟨(some 7), none, (.q (.bld (.agg [2] [(.agg [1, 1] [(.sc (.int .i64 0)), (.sc (.int .i64 0))])]) [(0, (.t 6))]))⟩,
    ⟨(some 8), none, (.q (.mki 292 (.t 7)))⟩,
    ⟨none, none, (.ac (.pan (.t 8)))⟩] [],
  [], []⟩
noncomputable def g234 : HFn Tryz.prog := ⟨r234, fun K => wslow Tryz.prog K r234.code, fun _ _ hK => wslow_fits hK _ (by decide +kernel)⟩
theorem c234 : chkF Tryz.prog Tryz.f234 r234 = true := by decide +kernel

/-- (*doubletake/rule.machine).named -/
def r235 : RFn := ⟨2,
  .seq (
  .reg [⟨(some 3), none, (.al (.box (.t 1)))⟩] [0, 3]) (
  .seq (
  .reg [⟨(some 4), none, (.q (.mov (.k (.bool true))))⟩,
    ⟨(some 5), none, (.q (.mov (.k (.bool true))))⟩] [0, 3, 4, 5]) (
  .seq (
  .seq (
  .reg [⟨(some 6), none, (.q (.fld 0 0 (.t 3)))⟩,
    ⟨(some 7), none, (.rd (.ld false 1 (.t 6)))⟩] [0, 3, 4, 5, 7]) (
  .block 0 (
   .seq (
   .seq (
   .reg [⟨(some 9), none, (.q (.bin .eql 3 (.t 7) (.k (.int .i64 1))))⟩,
     ⟨(some 8), none, (.q (.mov (.t 9)))⟩] [0, 3, 4, 5, 7, 8]) (
   .cond (.t 8) (
    .skip) (
    .seq (
    .reg [⟨(some 10), none, (.q (.bin .eql 3 (.t 7) (.k (.int .i64 7))))⟩,
      ⟨(some 8), none, (.q (.mov (.t 10)))⟩] [0, 3, 4, 5, 7, 8]) (
    .cond (.t 8) (
     .skip) (
     .reg [⟨(some 11), none, (.q (.bin .eql 3 (.t 7) (.k (.int .i64 9))))⟩,
       ⟨(some 8), none, (.q (.mov (.t 11)))⟩] [0, 3, 4, 5, 7, 8]))))) (
   .cond (.t 8) (
    .reg [⟨(some 5), none, (.q (.mov (.k (.bool false))))⟩] [0, 3, 4, 5]) (
    .seq (
    .reg [⟨(some 13), none, (.q (.bin .eql 3 (.t 7) (.k (.int .i64 8))))⟩,
      ⟨(some 12), none, (.q (.mov (.t 13)))⟩] [0, 3, 4, 5, 7, 12]) (
    .cond (.t 12) (
     .reg [⟨(some 4), none, (.q (.mov (.k (.bool false))))⟩] [0, 3, 4, 5]) (
     .seq (
     .seq (
     .reg [⟨(some 15), none, (.q (.bin .eql 3 (.t 7) (.k (.int .i64 10))))⟩,
       ⟨(some 14), none, (.q (.mov (.t 15)))⟩] [0, 3, 4, 5, 7, 14]) (
     .cond (.t 14) (
      .skip) (
      .reg [⟨(some 16), none, (.q (.bin .eql 3 (.t 7) (.k (.int .i64 13))))⟩,
        ⟨(some 14), none, (.q (.mov (.t 16)))⟩] [0, 3, 4, 5, 14]))) (
     .cond (.t 14) (
      .reg [⟨(some 4), none, (.q (.mov (.k (.bool false))))⟩,
        ⟨(some 5), none, (.q (.mov (.k (.bool false))))⟩] [0, 3, 4, 5]) (
      .skip))))))))) (
  .seq (
  .reg [⟨(some 17), none, (.q (.mov (.t 0)))⟩,
    ⟨(some 18), none, (.q (.mov (.t 4)))⟩,
    ⟨(some 19), none, (.q (.un .not (.t 18)))⟩,
    ⟨(some 20), none, (.q (.mov (.t 19)))⟩,
    ⟨(some 21), (some (20, false)), (.q (.fld 1 1 (.t 3)))⟩,
    ⟨(some 22), (some (20, false)), (.rd (.ld false 1 (.t 21)))⟩,
    ⟨(some 23), (some (20, false)), (.ac (.callf 157 [(.t 22), (.k (.int .i64 0)), (.k (.int .i64 3))]))⟩,
    ⟨(some 24), none, (.q (.pick (.t 20) (.k (.bool true)) (.t 23)))⟩,
    ⟨(some 25), none, (.ac (.callf 231 [(.t 17), (.t 24), (.k (.int .i64 2))]))⟩] [0, 3, 5]) (
  .reg [⟨(some 26), none, (.q (.mov (.t 0)))⟩,
    ⟨(some 27), none, (.q (.mov (.t 5)))⟩,
    ⟨(some 28), none, (.q (.un .not (.t 27)))⟩,
    ⟨(some 29), none, (.q (.mov (.t 28)))⟩,
    ⟨(some 30), (some (29, false)), (.q (.fld 2 2 (.t 3)))⟩,
    ⟨(some 31), (some (29, false)), (.rd (.ld false 1 (.t 30)))⟩,
    ⟨(some 32), (some (29, false)), (.ac (.callf 157 [(.t 31), (.k (.int .i64 0)), (.k (.int .i64 3))]))⟩,
    ⟨(some 33), none, (.q (.pick (.t 29) (.k (.bool true)) (.t 32)))⟩,
    ⟨(some 34), none, (.ac (.callf 231 [(.t 26), (.t 33), (.k (.int .i64 2))]))⟩] [3])))),
  [], [3]⟩
noncomputable def g235 : HFn Tryz.prog := ⟨r235, fun K => wslow Tryz.prog K r235.code, fun _ _ hK => wslow_fits hK _ (by decide +kernel)⟩
theorem c235 : chkF Tryz.prog Tryz.f235 r235 = true := by decide +kernel

/-- (*doubletake/rule.machine).set -/
def r236 : RFn := ⟨3,
  .draw [(2, ⟨(some 8), none, (.q (.mov (.t 2)))⟩, 0),
    (3, ⟨(some 9), none, (.ac (.callf 242 [(.t 8), (.k (.int .i64 (-1000000))), (.k (.int .i64 1000000))]))⟩, 0),
    (0, ⟨(some 6), none, (.q (.mov (.t 0)))⟩, 1),
    (1, ⟨(some 7), none, (.q (.mov (.t 1)))⟩, 1),
    (4, ⟨(some 10), none, (.q (.nchk (.t 6)))⟩, 1),
    (5, ⟨(some 11), none, (.q (.fld 0 0 (.t 10)))⟩, 1),
    (6, ⟨(some 12), none, (.q (.fld 0 0 (.t 11)))⟩, 1),
    (7, ⟨(some 13), none, (.q (.fld 7 7 (.t 12)))⟩, 1),
    (8, ⟨(some 14), none, (.q (.ixa 4 1 (.t 13) (.t 7)))⟩, 0),
    (9, ⟨none, none, (.ac (.st 1 (.t 14) (.t 9)))⟩, 0)] [],
  [], []⟩
noncomputable def g236 : HFn Tryz.prog := ⟨r236, fun K => wslow Tryz.prog K r236.code, fun _ _ hK => wslow_fits hK _ (by decide +kernel)⟩
theorem c236 : chkF Tryz.prog Tryz.f236 r236 = true := by decide +kernel

/-- (*doubletake/rule.machine).field -/
def r237 : RFn := ⟨2,
  .seq (
  .reg [⟨(some 4), none, (.q (.mov (.k (.int .i64 0))))⟩] [0, 1]) (
  .seq (
  .reg [⟨(some 7), none, (.q (.mov (.t 0)))⟩,
    ⟨(some 8), none, (.q (.nchk (.t 7)))⟩,
    ⟨(some 9), none, (.q (.fld 0 0 (.t 8)))⟩,
    ⟨(some 10), none, (.q (.fld 0 0 (.t 9)))⟩,
    ⟨(some 11), none, (.rd (.ld true 12 (.t 10)))⟩,
    ⟨(some 5), none, (.al (.alloc (.agg [1, 1, 1, 1, 1, 1, 1, 4, 1] [(.sc (.int .i64 0)), (.sc (.int .i64 0)), (.sc (.int .i64 0)), (.sc (.int .i64 0)), (.sc (.int .i64 0)), (.sc (.int .i64 0)), (.sc (.int .i64 0)), (.arr 1 (List.replicate 4 (.sc (.int .i64 0)))), (.sc (.int .i64 0))])))⟩,
    ⟨none, none, (.ac (.st 12 (.t 5) (.t 11)))⟩] [0, 1, 5]) (
  .seq (
  .draw [(0, ⟨(some 12), none, (.q (.fld 2 2 (.t 5)))⟩, 0),
    (1, ⟨(some 13), none, (.rd (.ld false 1 (.t 12)))⟩, 0),
    (2, ⟨(some 14), none, (.q (.fld 3 3 (.t 5)))⟩, 0),
    (3, ⟨(some 15), none, (.rd (.ld false 1 (.t 14)))⟩, 0),
    (4, ⟨(some 16), none, (.q (.fld 4 4 (.t 5)))⟩, 0),
    (5, ⟨(some 17), none, (.rd (.ld false 1 (.t 16)))⟩, 0),
    (6, ⟨(some 18), none, (.q (.fld 5 5 (.t 5)))⟩, 0),
    (7, ⟨(some 19), none, (.rd (.ld false 1 (.t 18)))⟩, 0),
    (8, ⟨(some 20), none, (.q (.fld 6 6 (.t 5)))⟩, 0),
    (9, ⟨(some 21), none, (.rd (.ld false 1 (.t 20)))⟩, 0),
    (10, ⟨(some 22), none, (.q (.mov (.t 0)))⟩, 0),
    (11, ⟨(some 23), none, (.q (.nchk (.t 22)))⟩, 0),
    (12, ⟨(some 24), none, (.q (.fld 0 0 (.t 23)))⟩, 0),
    (13, ⟨(some 25), none, (.q (.fld 1 12 (.t 24)))⟩, 0),
    (14, ⟨(some 26), none, (.q (.fld 0 0 (.t 25)))⟩, 0),
    (15, ⟨(some 27), none, (.rd (.ld false 1 (.t 26)))⟩, 0),
    (16, ⟨(some 28), none, (.q (.mov (.t 0)))⟩, 0),
    (17, ⟨(some 29), none, (.q (.nchk (.t 28)))⟩, 0),
    (18, ⟨(some 30), none, (.q (.fld 0 0 (.t 29)))⟩, 0),
    (19, ⟨(some 31), none, (.q (.fld 1 12 (.t 30)))⟩, 0),
    (20, ⟨(some 32), none, (.q (.fld 1 1 (.t 31)))⟩, 0),
    (21, ⟨(some 33), none, (.rd (.ld false 1 (.t 32)))⟩, 0),
    (22, ⟨(some 34), none, (.q (.mov (.t 0)))⟩, 0),
    (23, ⟨(some 35), none, (.q (.nchk (.t 34)))⟩, 0),
    (24, ⟨(some 36), none, (.q (.fld 0 0 (.t 35)))⟩, 0),
    (25, ⟨(some 37), none, (.q (.fld 1 12 (.t 36)))⟩, 0),
    (26, ⟨(some 38), none, (.q (.fld 2 2 (.t 37)))⟩, 0),
    (27, ⟨(some 39), none, (.rd (.ld false 1 (.t 38)))⟩, 0),
    (28, ⟨(some 40), none, (.al (.bldS 1 8 (.sc (.int .i64 0)) [(0, (.t 13)), (1, (.t 15)), (2, (.t 17)), (3, (.t 19)), (4, (.t 21)), (5, (.t 27)), (6, (.t 33)), (7, (.t 39))]))⟩, 0),
    (29, ⟨(some 6), none, (.q (.mov (.t 40)))⟩, 0)] [0, 1, 5, 6]) (
  .seq (
  .reg [⟨(some 41), none, (.q (.mov (.t 0)))⟩,
    ⟨(some 42), none, (.q (.mov (.t 1)))⟩,
    ⟨(some 43), none, (.q (.mov (.t 6)))⟩,
    ⟨(some 44), none, (.q (.len false (.t 43)))⟩,
    ⟨(some 45), none, (.q (.bin .sub 3 (.t 44) (.k (.int .i64 1))))⟩,
    ⟨(some 46), none, (.ac (.callf 157 [(.t 42), (.k (.int .i64 0)), (.t 45)]))⟩,
    ⟨(some 47), none, (.ac (.callf 231 [(.t 41), (.t 46), (.k (.int .i64 3))]))⟩] [1, 5, 6]) (
  .seq (
  .reg [⟨(some 48), none, (.q (.mov (.t 6)))⟩,
    ⟨(some 49), none, (.q (.mov (.t 1)))⟩,
    ⟨(some 50), none, (.q (.ixs 1 (.t 48) (.t 49)))⟩,
    ⟨(some 51), none, (.rd (.ld false 1 (.t 50)))⟩,
    ⟨(some 4), none, (.q (.mov (.t 51)))⟩] [4, 5]) (
  .ret))))),
  [.tmp 4], [5]⟩
noncomputable def g237 : HFn Tryz.prog := ⟨r237, fun K => wslow Tryz.prog K r237.code, fun _ _ hK => wslow_fits hK _ (by decide +kernel)⟩
theorem c237 : chkF Tryz.prog Tryz.f237 r237 = true := by decide +kernel

/-- (*doubletake/rule.machine).put -/
def r238 : RFn := ⟨3,
  .seq (
  .reg [⟨(some 7), none, (.q (.mov (.t 0)))⟩,
    ⟨(some 8), none, (.q (.nchk (.t 7)))⟩,
    ⟨(some 9), none, (.q (.fld 0 0 (.t 8)))⟩,
    ⟨(some 10), none, (.q (.fld 0 0 (.t 9)))⟩,
    ⟨(some 6), none, (.q (.mov (.t 10)))⟩] [0, 1, 2, 6]) (
  .seq (
  .reg [⟨(some 11), none, (.q (.mov (.t 1)))⟩] [0, 2, 6, 11]) (
  .block 0 (
   .seq (
   .reg [⟨(some 15), none, (.q (.bin .eql 3 (.t 11) (.k (.int .i64 0))))⟩,
     ⟨(some 14), none, (.q (.mov (.t 15)))⟩] [0, 2, 6, 11, 14]) (
   .cond (.t 14) (
    .reg [⟨(some 16), none, (.q (.mov (.t 6)))⟩,
      ⟨(some 17), none, (.q (.mov (.t 2)))⟩,
      ⟨(some 18), none, (.ac (.callf 242 [(.t 17), (.k (.int .i64 0)), (.k (.int .i64 4095))]))⟩,
      ⟨(some 19), none, (.q (.nchk (.t 16)))⟩,
      ⟨(some 20), none, (.q (.fld 2 2 (.t 19)))⟩,
      ⟨none, none, (.ac (.st 1 (.t 20) (.t 18)))⟩] []) (
    .seq (
    .reg [⟨(some 22), none, (.q (.bin .eql 3 (.t 11) (.k (.int .i64 1))))⟩,
      ⟨(some 21), none, (.q (.mov (.t 22)))⟩] [0, 2, 6, 11, 21]) (
    .cond (.t 21) (
     .reg [⟨(some 23), none, (.q (.mov (.t 6)))⟩,
       ⟨(some 24), none, (.q (.mov (.t 2)))⟩,
       ⟨(some 25), none, (.ac (.callf 242 [(.t 24), (.k (.int .i64 0)), (.k (.int .i64 4095))]))⟩,
       ⟨(some 26), none, (.q (.nchk (.t 23)))⟩,
       ⟨(some 27), none, (.q (.fld 3 3 (.t 26)))⟩,
       ⟨none, none, (.ac (.st 1 (.t 27) (.t 25)))⟩] []) (
     .seq (
     .reg [⟨(some 29), none, (.q (.bin .eql 3 (.t 11) (.k (.int .i64 2))))⟩,
       ⟨(some 28), none, (.q (.mov (.t 29)))⟩] [0, 2, 6, 11, 28]) (
     .cond (.t 28) (
      .reg [⟨(some 30), none, (.q (.mov (.t 6)))⟩,
        ⟨(some 31), none, (.q (.mov (.t 2)))⟩,
        ⟨(some 32), none, (.ac (.callf 242 [(.t 31), (.k (.int .i64 (-64))), (.k (.int .i64 64))]))⟩,
        ⟨(some 33), none, (.q (.nchk (.t 30)))⟩,
        ⟨(some 34), none, (.q (.fld 4 4 (.t 33)))⟩,
        ⟨none, none, (.ac (.st 1 (.t 34) (.t 32)))⟩] []) (
      .seq (
      .reg [⟨(some 36), none, (.q (.bin .eql 3 (.t 11) (.k (.int .i64 3))))⟩,
        ⟨(some 35), none, (.q (.mov (.t 36)))⟩] [0, 2, 6, 35]) (
      .cond (.t 35) (
       .reg [⟨(some 37), none, (.q (.mov (.t 6)))⟩,
         ⟨(some 38), none, (.q (.mov (.t 2)))⟩,
         ⟨(some 39), none, (.ac (.callf 242 [(.t 38), (.k (.int .i64 (-64))), (.k (.int .i64 64))]))⟩,
         ⟨(some 40), none, (.q (.nchk (.t 37)))⟩,
         ⟨(some 41), none, (.q (.fld 5 5 (.t 40)))⟩,
         ⟨none, none, (.ac (.st 1 (.t 41) (.t 39)))⟩] []) (
       .reg [⟨(some 12), none, (.q (.mov (.t 0)))⟩,
         ⟨(some 13), none, (.ac (.callf 231 [(.t 12), (.k (.bool false)), (.k (.int .i64 3))]))⟩] []))))))))))),
  [], []⟩
noncomputable def g238 : HFn Tryz.prog := ⟨r238, fun K => wslow Tryz.prog K r238.code, fun _ _ hK => wslow_fits hK _ (by decide +kernel)⟩
theorem c238 : chkF Tryz.prog Tryz.f238 r238 = true := by decide +kernel

/-- (*doubletake/rule.machine).reg -/
def r239 : RFn := ⟨2,
  .seq (
  .reg [⟨(some 4), none, (.q (.mov (.k (.int .i64 0))))⟩] [0, 1]) (
  .seq (
  .reg [⟨(some 5), none, (.q (.mov (.t 0)))⟩,
    ⟨(some 6), none, (.q (.mov (.t 1)))⟩,
    ⟨(some 7), none, (.q (.nchk (.t 5)))⟩,
    ⟨(some 8), none, (.q (.fld 0 0 (.t 7)))⟩,
    ⟨(some 9), none, (.q (.fld 0 0 (.t 8)))⟩,
    ⟨(some 10), none, (.q (.fld 7 7 (.t 9)))⟩,
    ⟨(some 11), none, (.q (.ixa 4 1 (.t 10) (.t 6)))⟩,
    ⟨(some 12), none, (.rd (.ld false 1 (.t 11)))⟩,
    ⟨(some 4), none, (.q (.mov (.t 12)))⟩] [4]) (
  .ret)),
  [.tmp 4], []⟩
noncomputable def g239 : HFn Tryz.prog := ⟨r239, fun K => wslow Tryz.prog K r239.code, fun _ _ hK => wslow_fits hK _ (by decide +kernel)⟩
theorem c239 : chkF Tryz.prog Tryz.f239 r239 = true := by decide +kernel

/-- (*doubletake/rule.machine).on -/
def r240 : RFn := ⟨2,
  .seq (
  .reg [⟨(some 4), none, (.q (.mov (.k (.int .i64 0))))⟩] [0, 1]) (
  .seq (
  .reg [⟨(some 5), none, (.q (.mov (.t 0)))⟩,
    ⟨(some 6), none, (.q (.mov (.t 1)))⟩,
    ⟨(some 7), none, (.q (.mov (.t 0)))⟩,
    ⟨(some 8), none, (.q (.nchk (.t 7)))⟩,
    ⟨(some 9), none, (.q (.fld 1 18 (.t 8)))⟩,
    ⟨(some 10), none, (.rd (.ld false 1 (.t 9)))⟩,
    ⟨(some 11), none, (.q (.len false (.t 10)))⟩,
    ⟨(some 12), none, (.ac (.callf 157 [(.t 6), (.k (.int .i64 0)), (.t 11)]))⟩,
    ⟨(some 13), none, (.ac (.callf 231 [(.t 5), (.t 12), (.k (.int .i64 4))]))⟩] [1]) (
  .seq (
  .reg [⟨(some 14), none, (.q (.mov (.t 1)))⟩,
    ⟨(some 4), none, (.q (.mov (.t 14)))⟩] [4]) (
  .ret))),
  [.tmp 4], []⟩
noncomputable def g240 : HFn Tryz.prog := ⟨r240, fun K => wslow Tryz.prog K r240.code, fun _ _ hK => wslow_fits hK _ (by decide +kernel)⟩
theorem c240 : chkF Tryz.prog Tryz.f240 r240 = true := by decide +kernel

/-- (*doubletake/rule.machine).reckon -/
def r241 : RFn := ⟨2,
  .seq (
  .reg [⟨(some 3), none, (.al (.box (.t 1)))⟩] [0, 3]) (
  .seq (
  .draw [(0, ⟨(some 8), none, (.q (.mov (.t 0)))⟩, 0),
    (1, ⟨(some 9), none, (.q (.fld 1 1 (.t 3)))⟩, 0),
    (2, ⟨(some 10), none, (.rd (.ld false 1 (.t 9)))⟩, 0),
    (3, ⟨(some 11), none, (.ac (.callf 239 [(.t 8), (.t 10)]))⟩, 0),
    (4, ⟨(some 12), none, (.q (.mov (.t 0)))⟩, 1),
    (5, ⟨(some 13), none, (.q (.fld 2 2 (.t 3)))⟩, 1),
    (6, ⟨(some 14), none, (.rd (.ld false 1 (.t 13)))⟩, 1),
    (7, ⟨(some 15), none, (.ac (.callf 239 [(.t 12), (.t 14)]))⟩, 0),
    (8, ⟨(some 4), none, (.q (.mov (.t 11)))⟩, 0),
    (9, ⟨(some 5), none, (.q (.mov (.t 15)))⟩, 0)] [0, 3, 4, 5]) (
  .seq (
  .reg [⟨(some 16), none, (.q (.fld 0 0 (.t 3)))⟩,
    ⟨(some 17), none, (.rd (.ld false 1 (.t 16)))⟩] [0, 3, 4, 5, 17]) (
  .block 0 (
   .seq (
   .reg [⟨(some 53), none, (.q (.bin .eql 3 (.t 17) (.k (.int .i64 2))))⟩,
     ⟨(some 52), none, (.q (.mov (.t 53)))⟩] [0, 3, 4, 5, 17, 52]) (
   .cond (.t 52) (
    .reg [⟨(some 54), none, (.q (.mov (.t 0)))⟩,
      ⟨(some 55), none, (.q (.fld 1 1 (.t 3)))⟩,
      ⟨(some 56), none, (.rd (.ld false 1 (.t 55)))⟩,
      ⟨(some 57), none, (.q (.mov (.t 5)))⟩,
      ⟨(some 58), none, (.ac (.callf 236 [(.t 54), (.t 56), (.t 57)]))⟩] [3]) (
    .seq (
    .reg [⟨(some 60), none, (.q (.bin .eql 3 (.t 17) (.k (.int .i64 3))))⟩,
      ⟨(some 59), none, (.q (.mov (.t 60)))⟩] [0, 3, 4, 5, 17, 59]) (
    .cond (.t 59) (
     .reg [⟨(some 61), none, (.q (.mov (.t 0)))⟩,
       ⟨(some 62), none, (.q (.fld 1 1 (.t 3)))⟩,
       ⟨(some 63), none, (.rd (.ld false 1 (.t 62)))⟩,
       ⟨(some 64), none, (.q (.mov (.t 4)))⟩,
       ⟨(some 65), none, (.q (.mov (.t 5)))⟩,
       ⟨(some 66), none, (.q (.bin .add 3 (.t 64) (.t 65)))⟩,
       ⟨(some 67), none, (.ac (.callf 236 [(.t 61), (.t 63), (.t 66)]))⟩] [3]) (
     .seq (
     .reg [⟨(some 69), none, (.q (.bin .eql 3 (.t 17) (.k (.int .i64 4))))⟩,
       ⟨(some 68), none, (.q (.mov (.t 69)))⟩] [0, 3, 4, 5, 17, 68]) (
     .cond (.t 68) (
      .reg [⟨(some 70), none, (.q (.mov (.t 0)))⟩,
        ⟨(some 71), none, (.q (.fld 1 1 (.t 3)))⟩,
        ⟨(some 72), none, (.rd (.ld false 1 (.t 71)))⟩,
        ⟨(some 73), none, (.q (.mov (.t 4)))⟩,
        ⟨(some 74), none, (.q (.mov (.t 5)))⟩,
        ⟨(some 75), none, (.q (.bin .sub 3 (.t 73) (.t 74)))⟩,
        ⟨(some 76), none, (.ac (.callf 236 [(.t 70), (.t 72), (.t 75)]))⟩] [3]) (
      .seq (
      .reg [⟨(some 78), none, (.q (.bin .eql 3 (.t 17) (.k (.int .i64 5))))⟩,
        ⟨(some 77), none, (.q (.mov (.t 78)))⟩] [0, 3, 4, 5, 17, 77]) (
      .cond (.t 77) (
       .reg [⟨(some 79), none, (.q (.mov (.t 0)))⟩,
         ⟨(some 80), none, (.q (.fld 1 1 (.t 3)))⟩,
         ⟨(some 81), none, (.rd (.ld false 1 (.t 80)))⟩,
         ⟨(some 82), none, (.q (.mov (.t 4)))⟩,
         ⟨(some 83), none, (.q (.mov (.t 5)))⟩,
         ⟨(some 84), none, (.q (.bin .mul 3 (.t 82) (.t 83)))⟩,
         ⟨(some 85), none, (.ac (.callf 236 [(.t 79), (.t 81), (.t 84)]))⟩] [3]) (
       .seq (
       .reg [⟨(some 87), none, (.q (.bin .eql 3 (.t 17) (.k (.int .i64 6))))⟩,
         ⟨(some 86), none, (.q (.mov (.t 87)))⟩] [0, 3, 4, 5, 17, 86]) (
       .cond (.t 86) (
        .seq (
        .reg [⟨(some 88), none, (.q (.mov (.t 0)))⟩,
          ⟨(some 89), none, (.q (.mov (.t 5)))⟩,
          ⟨(some 90), none, (.q (.bin .neq 3 (.t 89) (.k (.int .i64 0))))⟩,
          ⟨(some 91), none, (.ac (.callf 231 [(.t 88), (.t 90), (.k (.int .i64 1))]))⟩] [0, 3, 4, 5]) (
        .draw [(0, ⟨(some 92), none, (.q (.mov (.t 0)))⟩, 0),
          (1, ⟨(some 93), none, (.q (.fld 1 1 (.t 3)))⟩, 0),
          (2, ⟨(some 94), none, (.rd (.ld false 1 (.t 93)))⟩, 0),
          (3, ⟨(some 95), none, (.q (.mov (.t 4)))⟩, 0),
          (4, ⟨(some 96), none, (.q (.mov (.t 5)))⟩, 0),
          (5, ⟨(some 97), none, (.q (.bin .quo 3 (.t 95) (.t 96)))⟩, 0),
          (6, ⟨(some 98), none, (.ac (.callf 236 [(.t 92), (.t 94), (.t 97)]))⟩, 0)] [3])) (
        .seq (
        .reg [⟨(some 100), none, (.q (.bin .eql 3 (.t 17) (.k (.int .i64 11))))⟩,
          ⟨(some 99), none, (.q (.mov (.t 100)))⟩] [0, 3, 4, 5, 99]) (
        .cond (.t 99) (
         .seq (
         .reg [⟨(some 101), none, (.q (.mov (.t 0)))⟩,
           ⟨(some 102), none, (.q (.mov (.t 5)))⟩,
           ⟨(some 103), none, (.q (.bin .geq 3 (.t 102) (.k (.int .i64 1))))⟩,
           ⟨(some 104), none, (.ac (.callf 231 [(.t 101), (.t 103), (.k (.int .i64 6))]))⟩] [0, 3, 5]) (
         .seq (
         .reg [⟨(some 106), none, (.q (.mov (.t 0)))⟩,
           ⟨(some 107), none, (.q (.nchk (.t 106)))⟩,
           ⟨(some 108), none, (.q (.fld 0 0 (.t 107)))⟩,
           ⟨(some 109), none, (.q (.fld 2 15 (.t 108)))⟩,
           ⟨(some 110), none, (.rd (.ld false 1 (.t 109)))⟩,
           ⟨(some 111), none, (.q (.mov (.t 5)))⟩,
           ⟨(some 112), none, (.ac (.callf 243 [(.t 110), (.t 111)]))⟩,
           ⟨(some 105), none, (.q (.mov (.t 112)))⟩,
           ⟨(some 113), none, (.q (.ext 0 (.t 105)))⟩,
           ⟨(some 114), none, (.q (.ext 1 (.t 105)))⟩,
           ⟨(some 6), none, (.q (.mov (.t 113)))⟩,
           ⟨(some 7), none, (.q (.mov (.t 114)))⟩] [0, 3, 6, 7]) (
         .seq (
         .reg [⟨(some 115), none, (.q (.mov (.t 0)))⟩,
           ⟨(some 116), none, (.q (.mov (.t 6)))⟩,
           ⟨(some 117), none, (.q (.nchk (.t 115)))⟩,
           ⟨(some 118), none, (.q (.fld 0 0 (.t 117)))⟩,
           ⟨(some 119), none, (.q (.fld 2 15 (.t 118)))⟩,
           ⟨none, none, (.ac (.st 1 (.t 119) (.t 116)))⟩] [0, 3, 7]) (
         .reg [⟨(some 120), none, (.q (.mov (.t 0)))⟩,
           ⟨(some 121), none, (.q (.fld 1 1 (.t 3)))⟩,
           ⟨(some 122), none, (.rd (.ld false 1 (.t 121)))⟩,
           ⟨(some 123), none, (.q (.mov (.t 7)))⟩,
           ⟨(some 124), none, (.ac (.callf 236 [(.t 120), (.t 122), (.t 123)]))⟩] [3])))) (
         .seq (
         .draw [(0, ⟨(some 18), none, (.q (.mov (.t 0)))⟩, 0),
           (1, ⟨(some 19), none, (.q (.mov (.t 0)))⟩, 0),
           (2, ⟨(some 20), none, (.q (.nchk (.t 19)))⟩, 0),
           (3, ⟨(some 21), none, (.q (.fld 0 0 (.t 20)))⟩, 0),
           (4, ⟨(some 22), none, (.q (.fld 4 17 (.t 21)))⟩, 0),
           (5, ⟨(some 23), none, (.rd (.ld false 1 (.t 22)))⟩, 0),
           (6, ⟨(some 24), none, (.q (.len false (.t 23)))⟩, 0),
           (7, ⟨(some 25), none, (.q (.mov (.t 0)))⟩, 0),
           (8, ⟨(some 26), none, (.q (.nchk (.t 25)))⟩, 0),
           (9, ⟨(some 27), none, (.q (.fld 0 0 (.t 26)))⟩, 0),
           (10, ⟨(some 28), none, (.q (.fld 3 16 (.t 27)))⟩, 0),
           (11, ⟨(some 29), none, (.rd (.ld false 1 (.t 28)))⟩, 0),
           (12, ⟨(some 30), none, (.q (.bin .lss 3 (.t 24) (.t 29)))⟩, 0),
           (13, ⟨(some 31), none, (.ac (.callf 231 [(.t 18), (.t 30), (.k (.int .i64 7))]))⟩, 0)] [0, 3, 4, 5]) (
         .draw [(1, ⟨(some 33), none, (.q (.mov (.t 0)))⟩, 0),
           (2, ⟨(some 34), none, (.q (.nchk (.t 33)))⟩, 0),
           (3, ⟨(some 35), none, (.q (.fld 0 0 (.t 34)))⟩, 0),
           (4, ⟨(some 36), none, (.q (.fld 4 17 (.t 35)))⟩, 0),
           (5, ⟨(some 37), none, (.rd (.ld false 1 (.t 36)))⟩, 0),
           (6, ⟨(some 38), none, (.ac (.callf 230 [(.t 37)]))⟩, 0),
           (7, ⟨(some 39), none, (.q (.mov (.t 0)))⟩, 1),
           (8, ⟨(some 40), none, (.q (.nchk (.t 39)))⟩, 1),
           (9, ⟨(some 41), none, (.q (.fld 0 0 (.t 40)))⟩, 1),
           (10, ⟨(some 42), none, (.q (.fld 0 0 (.t 41)))⟩, 1),
           (11, ⟨(some 43), none, (.rd (.ld true 12 (.t 42)))⟩, 1),
           (12, ⟨(some 44), none, (.q (.mov (.t 4)))⟩, 1),
           (13, ⟨(some 45), none, (.q (.mov (.t 5)))⟩, 1),
           (14, ⟨(some 46), none, (.ac (.callf 244 [(.t 43), (.t 44), (.t 45)]))⟩, 0),
           (15, ⟨(some 47), none, (.al (.bldS 12 1 (.agg [1, 1, 1, 1, 1, 1, 1, 4, 1] [(.sc (.int .i64 0)), (.sc (.int .i64 0)), (.sc (.int .i64 0)), (.sc (.int .i64 0)), (.sc (.int .i64 0)), (.sc (.int .i64 0)), (.sc (.int .i64 0)), (.arr 1 (List.replicate 4 (.sc (.int .i64 0)))), (.sc (.int .i64 0))]) [(0, (.t 46))]))⟩, 0),
           (16, ⟨(some 48), none, (.ac (.app true 12 96 (.t 38) (.t 47)))⟩, 0),
           (0, ⟨(some 32), none, (.q (.mov (.t 0)))⟩, 3),
           (17, ⟨(some 49), none, (.q (.nchk (.t 32)))⟩, 0),
           (18, ⟨(some 50), none, (.q (.fld 0 0 (.t 49)))⟩, 0),
           (19, ⟨(some 51), none, (.q (.fld 4 17 (.t 50)))⟩, 0),
           (20, ⟨none, none, (.ac (.st 1 (.t 51) (.t 48)))⟩, 0)] [3]))))))))))))))))),
  [], [3]⟩
noncomputable def g241 : HFn Tryz.prog := ⟨r241, fun K => wslow Tryz.prog K r241.code, fun _ _ hK => wslow_fits hK _ (by decide +kernel)⟩
theorem c241 : chkF Tryz.prog Tryz.f241 r241 = true := by decide +kernel

/-- doubletake/rule.brought -/
def r242 : RFn := ⟨3,
  .seq (
  .reg [⟨(some 6), none, (.q (.mov (.k (.int .i64 0))))⟩] [0, 1, 2]) (
  .seq (
  .reg [⟨(some 7), none, (.q (.mov (.t 1)))⟩,
    ⟨(some 8), none, (.q (.mov (.t 0)))⟩,
    ⟨(some 9), none, (.q (.mov (.t 2)))⟩,
    ⟨(some 10), none, (.q (.mm false [(.t 8), (.t 9)]))⟩,
    ⟨(some 11), none, (.q (.mm true [(.t 7), (.t 10)]))⟩,
    ⟨(some 6), none, (.q (.mov (.t 11)))⟩] [6]) (
  .ret)),
  [.tmp 6], []⟩
noncomputable def g242 : HFn Tryz.prog := ⟨r242, fun K => wslow Tryz.prog K r242.code, fun _ _ hK => wslow_fits hK _ (by decide +kernel)⟩
theorem c242 : chkF Tryz.prog Tryz.f242 r242 = true := by decide +kernel

/-- doubletake/dice.Roll -/
def r243 : RFn := ⟨2,
  .seq (
  .reg [⟨(some 4), none, (.q (.mov (.k (.int .u64 0))))⟩,
    ⟨(some 5), none, (.q (.mov (.k (.int .i64 0))))⟩] [0, 1]) (
  .seq (
  .seq (
  .reg [⟨(some 7), none, (.q (.mov (.t 1)))⟩,
    ⟨(some 8), none, (.q (.bin .lss 3 (.t 7) (.k (.int .i64 1))))⟩] [0, 1, 8]) (
  .cond (.t 8) (
   .seq (
   .reg [⟨(some 9), none, (.q (.mov (.t 0)))⟩,
     ⟨(some 4), none, (.q (.mov (.t 9)))⟩,
     ⟨(some 5), none, (.q (.mov (.k (.int .i64 0))))⟩] [4, 5]) (
   .ret)) (
   .skip))) (
  .seq (
  .reg [⟨(some 11), none, (.q (.mov (.t 0)))⟩,
    ⟨(some 12), none, (.ac (.callf 245 [(.t 11)]))⟩,
    ⟨(some 10), none, (.q (.mov (.t 12)))⟩,
    ⟨(some 13), none, (.q (.ext 0 (.t 10)))⟩,
    ⟨(some 14), none, (.q (.ext 1 (.t 10)))⟩,
    ⟨(some 0), none, (.q (.mov (.t 13)))⟩,
    ⟨(some 6), none, (.q (.mov (.t 14)))⟩] [0, 1, 6]) (
  .seq (
  .draw [(0, ⟨(some 15), none, (.q (.mov (.t 0)))⟩, 0),
    (1, ⟨(some 16), none, (.q (.mov (.t 6)))⟩, 0),
    (2, ⟨(some 17), none, (.q (.mov (.t 1)))⟩, 0),
    (3, ⟨(some 18), none, (.q (.bin .rem 3 (.t 16) (.t 17)))⟩, 0),
    (4, ⟨(some 4), none, (.q (.mov (.t 15)))⟩, 0),
    (5, ⟨(some 5), none, (.q (.mov (.t 18)))⟩, 0)] [4, 5]) (
  .ret)))),
  [.tmp 4, .tmp 5], []⟩
noncomputable def g243 : HFn Tryz.prog := ⟨r243, fun K => wslow Tryz.prog K r243.code, fun _ _ hK => wslow_fits hK _ (by decide +kernel)⟩
theorem c243 : chkF Tryz.prog Tryz.f243 r243 = true := by decide +kernel

/-- doubletake/body.Shoot -/
def r244 : RFn := ⟨3,
  .seq (
  .reg [⟨(some 3), none, (.al (.box (.t 0)))⟩,
    ⟨(some 6), none, (.al (.alloc (.agg [1, 1, 1, 1, 1, 1, 1, 4, 1] [(.sc (.int .i64 0)), (.sc (.int .i64 0)), (.sc (.int .i64 0)), (.sc (.int .i64 0)), (.sc (.int .i64 0)), (.sc (.int .i64 0)), (.sc (.int .i64 0)), (.arr 1 (List.replicate 4 (.sc (.int .i64 0)))), (.sc (.int .i64 0))])))⟩] [1, 2, 3, 6]) (
  .seq (
  .seq (
  .reg [⟨(some 7), none, (.rd (.ld true 12 (.t 3)))⟩,
    ⟨(some 8), none, (.ac (.callf 195 [(.t 7)]))⟩,
    ⟨(some 9), none, (.q (.un .not (.t 8)))⟩,
    ⟨(some 10), none, (.q (.mov (.t 9)))⟩,
    ⟨(some 11), (some (10, false)), (.q (.fld 0 0 (.t 3)))⟩,
    ⟨(some 12), (some (10, false)), (.rd (.ld false 1 (.t 11)))⟩,
    ⟨(some 13), (some (10, false)), (.q (.bin .eql 3 (.t 12) (.k (.int .i64 0))))⟩,
    ⟨(some 14), none, (.q (.pick (.t 10) (.k (.bool true)) (.t 13)))⟩] [1, 2, 3, 6, 14]) (
  .cond (.t 14) (
   .seq (
   .reg [⟨(some 15), none, (.q (.bld (.agg [1, 1, 1, 1, 1, 1, 1, 4, 1] [(.sc (.int .i64 0)), (.sc (.int .i64 0)), (.sc (.int .i64 0)), (.sc (.int .i64 0)), (.sc (.int .i64 0)), (.sc (.int .i64 0)), (.sc (.int .i64 0)), (.arr 1 (List.replicate 4 (.sc (.int .i64 0)))), (.sc (.int .i64 0))]) []))⟩,
     ⟨none, none, (.ac (.st 12 (.t 6) (.t 15)))⟩] [3, 6]) (
   .ret)) (
   .skip))) (
  .seq (
  .draw [(6, ⟨(some 22), none, (.q (.mov (.t 1)))⟩, 0),
    (7, ⟨(some 23), none, (.ac (.callf 106 [(.t 22), (.k (.int .i64 (-64))), (.k (.int .i64 64))]))⟩, 0),
    (8, ⟨(some 24), none, (.q (.mov (.t 2)))⟩, 1),
    (9, ⟨(some 25), none, (.ac (.callf 106 [(.t 24), (.k (.int .i64 (-64))), (.k (.int .i64 64))]))⟩, 0),
    (0, ⟨(some 16), none, (.q (.fld 1 1 (.t 3)))⟩, 2),
    (1, ⟨(some 17), none, (.rd (.ld false 1 (.t 16)))⟩, 2),
    (2, ⟨(some 18), none, (.q (.fld 2 2 (.t 3)))⟩, 2),
    (3, ⟨(some 19), none, (.rd (.ld false 1 (.t 18)))⟩, 2),
    (4, ⟨(some 20), none, (.q (.fld 3 3 (.t 3)))⟩, 2),
    (5, ⟨(some 21), none, (.rd (.ld false 1 (.t 20)))⟩, 2),
    (10, ⟨(some 26), none, (.q (.bld (.agg [1, 1, 1, 1, 1, 1, 1, 4, 1] [(.sc (.int .i64 0)), (.sc (.int .i64 0)), (.sc (.int .i64 0)), (.sc (.int .i64 0)), (.sc (.int .i64 0)), (.sc (.int .i64 0)), (.sc (.int .i64 0)), (.arr 1 (List.replicate 4 (.sc (.int .i64 0)))), (.sc (.int .i64 0))]) [(0, (.k (.int .i64 2))), (1, (.t 17)), (2, (.t 19)), (3, (.t 21)), (4, (.t 23)), (5, (.t 25))]))⟩, 0),
    (11, ⟨none, none, (.ac (.st 12 (.t 6) (.t 26)))⟩, 0)] [3, 6]) (
  .ret))),
  [.cell 6 true 12], [3, 6]⟩
noncomputable def g244 : HFn Tryz.prog := ⟨r244, fun K => wslow Tryz.prog K r244.code, fun _ _ hK => wslow_fits hK _ (by decide +kernel)⟩
theorem c244 : chkF Tryz.prog Tryz.f244 r244 = true := by decide +kernel

/-- doubletake/dice.Next -/
def r245 : RFn := ⟨1,
  .seq (
  .reg [⟨(some 2), none, (.q (.mov (.k (.int .u64 0))))⟩,
    ⟨(some 3), none, (.q (.mov (.k (.int .i64 0))))⟩] [0]) (
  .seq (
  .reg [⟨(some 4), none, (.q (.mov (.t 0)))⟩,
    ⟨(some 5), none, (.q (.bin .mul 39 (.t 4) (.k (.int .u64 6364136223846793005))))⟩,
    ⟨(some 6), none, (.q (.bin .add 39 (.t 5) (.k (.int .u64 1442695040888963407))))⟩,
    ⟨(some 0), none, (.q (.mov (.t 6)))⟩] [0]) (
  .seq (
  .reg [⟨(some 7), none, (.q (.mov (.t 0)))⟩,
    ⟨(some 8), none, (.q (.mov (.t 0)))⟩,
    ⟨(some 9), none, (.q (.bin .shr 39 (.t 8) (.k (.int .u64 33))))⟩,
    ⟨(some 10), none, (.q (.conv 39 3 (.t 9)))⟩,
    ⟨(some 2), none, (.q (.mov (.t 7)))⟩,
    ⟨(some 3), none, (.q (.mov (.t 10)))⟩] [2, 3]) (
  .ret))),
  [.tmp 2, .tmp 3], []⟩
noncomputable def g245 : HFn Tryz.prog := ⟨r245, fun K => wslow Tryz.prog K r245.code, fun _ _ hK => wslow_fits hK _ (by decide +kernel)⟩
theorem c245 : chkF Tryz.prog Tryz.f245 r245 = true := by decide +kernel

end Go.AM
