import Derived.Test.YtpkmlogclnjijaaGreatAm43
/-! The resolved form of the program's functions, written by program. -/
set_option linter.unusedVariables false
namespace Go.AM
open Go.Proofs

/-! doubletake/step.tokens -/
def o104n0 : List RI := [⟨(some 1), none, (.al (.box (.t 0)))⟩, ⟨(some 2), none, (.q (.mov (.k (.bool false))))⟩]
noncomputable def b104n0 (K : KTC) (k : KS) (a0 : AV) (c : KN) (p : KV) : Kr :=
  pAl (evAl [(0, a0)] k.nx (.box (.t 0))) k fun v0 k0 =>
  c [(1, v0)] k0
theorem e104n0 (K : KTC) (k : KS) (a0 : AV) (c : KN) (p : KV) : b104n0 K k a0 c p = wReg Tryz.prog K [1] o104n0 [(0, a0)] k c p := by unfold b104n0; kernel_rfl
noncomputable def s104n0 (K : KTC) (e : Env) (k : KS) (c : KN) (p : KV) : Kr := gt e 0 fun a0 => b104n0 K k a0 c p
theorem p104n0 (K : KTC) (K' : KT) (hK : CSound K K') : FitsC Tryz.prog K' (.reg (s104n0 K)) (.reg o104n0 [1]) := fun e k c p y h => by
  obtain ⟨a0, h0, h⟩ := gt_some h
  exact wreg_fit hK (by decide +kernel) (keep_cons h0 (keep_nil)) (e104n0 K k a0 c p) h
def o104n1 : List RI := [⟨(some 6), none, (.al (.mkM))⟩, ⟨(some 3), none, (.q (.mov (.t 6)))⟩]
noncomputable def b104n1 (K : KTC) (k : KS) (a1 : AV) (c : KN) (p : KV) : Kr :=
  pAl (evAl [] k.nx (.mkM)) k fun v0 k0 =>
  c [(1, a1), (3, v0)] k0
theorem e104n1 (K : KTC) (k : KS) (a1 : AV) (c : KN) (p : KV) : b104n1 K k a1 c p = wReg Tryz.prog K [1, 3] o104n1 [(1, a1)] k c p := by unfold b104n1; kernel_rfl
noncomputable def s104n1 (K : KTC) (e : Env) (k : KS) (c : KN) (p : KV) : Kr := gt e 1 fun a1 => b104n1 K k a1 c p
theorem p104n1 (K : KTC) (K' : KT) (hK : CSound K K') : FitsC Tryz.prog K' (.reg (s104n1 K)) (.reg o104n1 [1, 3]) := fun e k c p y h => by
  obtain ⟨a1, h1, h⟩ := gt_some h
  exact wreg_fit hK (by decide +kernel) (keep_cons h1 (keep_nil)) (e104n1 K k a1 c p) h
def o104n2 : List RI := [⟨(some 7), none, (.q (.fld 9 9 (.t 1)))⟩, ⟨(some 8), none, (.rd (.ld false 1 (.t 7)))⟩, ⟨(some 9), none, (.q (.len false (.t 8)))⟩, ⟨(some 10), none, (.q (.mov (.k (.int .i64 0))))⟩]
noncomputable def b104n2 (K : KTC) (k : KS) (a1 a3 : AV) (c : KN) (p : KV) : Kr :=
  xFld 9 9 a1 fun v0 =>
  xLd k.t false 1 v0 fun v1 =>
  xLen v1 fun v2 =>
  c [(1, a1), (3, a3), (8, v1), (9, v2), (10, (.sc (.int .i64 0)))] k
theorem e104n2 (K : KTC) (k : KS) (a1 a3 : AV) (c : KN) (p : KV) : b104n2 K k a1 a3 c p = wReg Tryz.prog K [1, 3, 8, 9, 10] o104n2 [(1, a1), (3, a3)] k c p := by unfold b104n2; simp only [xLen_eq, xLd_eq, xFld_eq]; kernel_rfl
noncomputable def s104n2 (K : KTC) (e : Env) (k : KS) (c : KN) (p : KV) : Kr := gt e 1 fun a1 => gt e 3 fun a3 => b104n2 K k a1 a3 c p
theorem p104n2 (K : KTC) (K' : KT) (hK : CSound K K') : FitsC Tryz.prog K' (.reg (s104n2 K)) (.reg o104n2 [1, 3, 8, 9, 10]) := fun e k c p y h => by
  obtain ⟨a1, h1, h⟩ := gt_some h
  obtain ⟨a3, h3, h⟩ := gt_some h
  exact wreg_fit hK (by decide +kernel) (keep_cons h1 (keep_cons h3 (keep_nil))) (e104n2 K k a1 a3 c p) h
def o104n3 : List RI := [⟨(some 11), none, (.q (.bin .lss 3 (.t 10) (.t 9)))⟩]
noncomputable def b104n3 (K : KTC) (k : KS) (a10 a9 a1 a3 a8 : AV) (c : KN) (p : KV) : Kr :=
  xLss 3 a10 a9 fun v0 =>
  c [(1, a1), (3, a3), (8, a8), (9, a9), (10, a10), (11, v0)] k
theorem e104n3 (K : KTC) (k : KS) (a10 a9 a1 a3 a8 : AV) (c : KN) (p : KV) : b104n3 K k a10 a9 a1 a3 a8 c p = wReg Tryz.prog K [1, 3, 8, 9, 10, 11] o104n3 [(10, a10), (9, a9), (1, a1), (3, a3), (8, a8)] k c p := by unfold b104n3; simp only [xLss_eq]; kernel_rfl
noncomputable def s104n3 (K : KTC) (e : Env) (k : KS) (c : KN) (p : KV) : Kr := gt e 10 fun a10 => gt e 9 fun a9 => gt e 1 fun a1 => gt e 3 fun a3 => gt e 8 fun a8 => b104n3 K k a10 a9 a1 a3 a8 c p
theorem p104n3 (K : KTC) (K' : KT) (hK : CSound K K') : FitsC Tryz.prog K' (.reg (s104n3 K)) (.reg o104n3 [1, 3, 8, 9, 10, 11]) := fun e k c p y h => by
  obtain ⟨a10, h10, h⟩ := gt_some h
  obtain ⟨a9, h9, h⟩ := gt_some h
  obtain ⟨a1, h1, h⟩ := gt_some h
  obtain ⟨a3, h3, h⟩ := gt_some h
  obtain ⟨a8, h8, h⟩ := gt_some h
  exact wreg_fit hK (by decide +kernel) (keep_cons h10 (keep_cons h9 (keep_cons h1 (keep_cons h3 (keep_cons h8 (keep_nil)))))) (e104n3 K k a10 a9 a1 a3 a8 c p) h
def o104n4 : List RI := [⟨(some 12), none, (.q (.ixs 1 (.t 8) (.t 10)))⟩, ⟨(some 13), none, (.rd (.ld false 1 (.t 12)))⟩, ⟨(some 5), none, (.q (.mov (.t 13)))⟩]
noncomputable def b104n4 (K : KTC) (k : KS) (a8 a10 a1 a3 a9 : AV) (c : KN) (p : KV) : Kr :=
  xIxl k.t 1 false 1 a8 a10 fun v0 =>
  c [(1, a1), (3, a3), (5, v0), (8, a8), (9, a9), (10, a10)] k
theorem e104n4 (K : KTC) (k : KS) (a8 a10 a1 a3 a9 : AV) (c : KN) (p : KV) : b104n4 K k a8 a10 a1 a3 a9 c p = wReg Tryz.prog K [1, 3, 5, 8, 9, 10] o104n4 [(8, a8), (10, a10), (1, a1), (3, a3), (9, a9)] k c p := by unfold b104n4; simp only [xIxl_eq]; kernel_rfl
noncomputable def s104n4 (K : KTC) (e : Env) (k : KS) (c : KN) (p : KV) : Kr := gt e 8 fun a8 => gt e 10 fun a10 => gt e 1 fun a1 => gt e 3 fun a3 => gt e 9 fun a9 => b104n4 K k a8 a10 a1 a3 a9 c p
theorem p104n4 (K : KTC) (K' : KT) (hK : CSound K K') : FitsC Tryz.prog K' (.reg (s104n4 K)) (.reg o104n4 [1, 3, 5, 8, 9, 10]) := fun e k c p y h => by
  obtain ⟨a8, h8, h⟩ := gt_some h
  obtain ⟨a10, h10, h⟩ := gt_some h
  obtain ⟨a1, h1, h⟩ := gt_some h
  obtain ⟨a3, h3, h⟩ := gt_some h
  obtain ⟨a9, h9, h⟩ := gt_some h
  exact wreg_fit hK (by decide +kernel) (keep_cons h8 (keep_cons h10 (keep_cons h1 (keep_cons h3 (keep_cons h9 (keep_nil)))))) (e104n4 K k a8 a10 a1 a3 a9 c p) h
def o104n5 : List RI := [⟨(some 14), none, (.q (.mov (.t 5)))⟩, ⟨(some 15), none, (.ac (.callf 102 [(.t 14), (.k (.int .i64 0)), (.k (.int .i64 2147483646))]))⟩, ⟨(some 16), none, (.q (.un .not (.t 15)))⟩, ⟨(some 17), none, (.q (.mov (.t 16)))⟩, ⟨(some 18), (some (17, false)), (.q (.mov (.t 3)))⟩, ⟨(some 19), (some (17, false)), (.q (.mov (.t 5)))⟩, ⟨(some 20), (some (17, false)), (.rd (.look (.sc (.bool false)) false (.t 18) (.t 19)))⟩, ⟨(some 21), none, (.q (.pick (.t 17) (.k (.bool true)) (.t 20)))⟩]
def o104n6 : List RI := [⟨(some 2), none, (.q (.mov (.k (.bool false))))⟩]
noncomputable def b104n6 (K : KTC) (k : KS) (a1 : AV) (c : KN) (p : KV) : Kr :=
  c [(1, a1), (2, (.sc (.bool false)))] k
theorem e104n6 (K : KTC) (k : KS) (a1 : AV) (c : KN) (p : KV) : b104n6 K k a1 c p = wReg Tryz.prog K [1, 2] o104n6 [(1, a1)] k c p := by unfold b104n6; kernel_rfl
noncomputable def s104n6 (K : KTC) (e : Env) (k : KS) (c : KN) (p : KV) : Kr := gt e 1 fun a1 => b104n6 K k a1 c p
theorem p104n6 (K : KTC) (K' : KT) (hK : CSound K K') : FitsC Tryz.prog K' (.reg (s104n6 K)) (.reg o104n6 [1, 2]) := fun e k c p y h => by
  obtain ⟨a1, h1, h⟩ := gt_some h
  exact wreg_fit hK (by decide +kernel) (keep_cons h1 (keep_nil)) (e104n6 K k a1 c p) h
def o104n7 : List RI := [⟨(some 22), none, (.q (.mov (.t 3)))⟩, ⟨(some 23), none, (.q (.mov (.t 5)))⟩, ⟨none, none, (.ac (.mset (.t 22) (.t 23) (.k (.bool true))))⟩]
noncomputable def b104n7 (K : KTC) (k : KS) (a3 a5 a1 a8 a9 a10 : AV) (c : KN) (p : KV) : Kr :=
  pCall (kA (fun _ _ _ => none) [(22, a3), (23, a5)] k (.mset (.t 22) (.t 23) (.k (.bool true)))) (fun v0 k0 =>
  c [(1, a1), (3, a3), (8, a8), (9, a9), (10, a10)] k0) (p)
theorem e104n7 (K : KTC) (k : KS) (a3 a5 a1 a8 a9 a10 : AV) (c : KN) (p : KV) : b104n7 K k a3 a5 a1 a8 a9 a10 c p = wReg Tryz.prog K [1, 3, 8, 9, 10] o104n7 [(3, a3), (5, a5), (1, a1), (8, a8), (9, a9), (10, a10)] k c p := by unfold b104n7; kernel_rfl
noncomputable def s104n7 (K : KTC) (e : Env) (k : KS) (c : KN) (p : KV) : Kr := gt e 3 fun a3 => gt e 5 fun a5 => gt e 1 fun a1 => gt e 8 fun a8 => gt e 9 fun a9 => gt e 10 fun a10 => b104n7 K k a3 a5 a1 a8 a9 a10 c p
theorem p104n7 (K : KTC) (K' : KT) (hK : CSound K K') : FitsC Tryz.prog K' (.reg (s104n7 K)) (.reg o104n7 [1, 3, 8, 9, 10]) := fun e k c p y h => by
  obtain ⟨a3, h3, h⟩ := gt_some h
  obtain ⟨a5, h5, h⟩ := gt_some h
  obtain ⟨a1, h1, h⟩ := gt_some h
  obtain ⟨a8, h8, h⟩ := gt_some h
  obtain ⟨a9, h9, h⟩ := gt_some h
  obtain ⟨a10, h10, h⟩ := gt_some h
  exact wreg_fit hK (by decide +kernel) (keep_cons h3 (keep_cons h5 (keep_cons h1 (keep_cons h8 (keep_cons h9 (keep_cons h10 (keep_nil))))))) (e104n7 K k a3 a5 a1 a8 a9 a10 c p) h
def o104n8 : List RI := [⟨(some 24), none, (.q (.bin .add 3 (.t 10) (.k (.int .i64 1))))⟩, ⟨(some 10), none, (.q (.mov (.t 24)))⟩]
noncomputable def b104n8 (K : KTC) (k : KS) (a10 a1 a3 a8 a9 : AV) (c : KN) (p : KV) : Kr :=
  xAdd 3 a10 (.sc (.int .i64 1)) fun v0 =>
  c [(1, a1), (3, a3), (8, a8), (9, a9), (10, v0)] k
theorem e104n8 (K : KTC) (k : KS) (a10 a1 a3 a8 a9 : AV) (c : KN) (p : KV) : b104n8 K k a10 a1 a3 a8 a9 c p = wReg Tryz.prog K [1, 3, 8, 9, 10] o104n8 [(10, a10), (1, a1), (3, a3), (8, a8), (9, a9)] k c p := by unfold b104n8; simp only [xAdd_eq]; kernel_rfl
noncomputable def s104n8 (K : KTC) (e : Env) (k : KS) (c : KN) (p : KV) : Kr := gt e 10 fun a10 => gt e 1 fun a1 => gt e 3 fun a3 => gt e 8 fun a8 => gt e 9 fun a9 => b104n8 K k a10 a1 a3 a8 a9 c p
theorem p104n8 (K : KTC) (K' : KT) (hK : CSound K K') : FitsC Tryz.prog K' (.reg (s104n8 K)) (.reg o104n8 [1, 3, 8, 9, 10]) := fun e k c p y h => by
  obtain ⟨a10, h10, h⟩ := gt_some h
  obtain ⟨a1, h1, h⟩ := gt_some h
  obtain ⟨a3, h3, h⟩ := gt_some h
  obtain ⟨a8, h8, h⟩ := gt_some h
  obtain ⟨a9, h9, h⟩ := gt_some h
  exact wreg_fit hK (by decide +kernel) (keep_cons h10 (keep_cons h1 (keep_cons h3 (keep_cons h8 (keep_cons h9 (keep_nil)))))) (e104n8 K k a10 a1 a3 a8 a9 c p) h
def o104n9 : List RI := [⟨(some 25), none, (.q (.fld 9 9 (.t 1)))⟩, ⟨(some 26), none, (.rd (.ld false 1 (.t 25)))⟩, ⟨(some 27), none, (.q (.len false (.t 26)))⟩, ⟨(some 28), none, (.q (.fld 0 0 (.t 1)))⟩, ⟨(some 29), none, (.rd (.ld false 1 (.t 28)))⟩, ⟨(some 30), none, (.q (.bin .eql 3 (.t 27) (.t 29)))⟩, ⟨(some 2), none, (.q (.mov (.t 30)))⟩]
noncomputable def b104n9 (K : KTC) (k : KS) (a1 : AV) (c : KN) (p : KV) : Kr :=
  xFld 9 9 a1 fun v0 =>
  xLd k.t false 1 v0 fun v1 =>
  xLen v1 fun v2 =>
  xFld 0 0 a1 fun v3 =>
  xLd k.t false 1 v3 fun v4 =>
  xEql 3 v2 v4 fun v5 =>
  c [(1, a1), (2, v5)] k
theorem e104n9 (K : KTC) (k : KS) (a1 : AV) (c : KN) (p : KV) : b104n9 K k a1 c p = wReg Tryz.prog K [1, 2] o104n9 [(1, a1)] k c p := by unfold b104n9; simp only [xEql_eq, xLen_eq, xLd_eq, xFld_eq]; kernel_rfl
noncomputable def s104n9 (K : KTC) (e : Env) (k : KS) (c : KN) (p : KV) : Kr := gt e 1 fun a1 => b104n9 K k a1 c p
theorem p104n9 (K : KTC) (K' : KT) (hK : CSound K K') : FitsC Tryz.prog K' (.reg (s104n9 K)) (.reg o104n9 [1, 2]) := fun e k c p y h => by
  obtain ⟨a1, h1, h⟩ := gt_some h
  exact wreg_fit hK (by decide +kernel) (keep_cons h1 (keep_nil)) (e104n9 K k a1 c p) h
def r104 : RFn := ⟨1, .seq (.reg o104n0 [1]) (.seq (.reg o104n1 [1, 3]) (.seq (.seq (.reg o104n2 [1, 3, 8, 9, 10]) (.block 0 (.loop [1, 3, 8, 9, 10] (.seq (.reg o104n3 [1, 3, 8, 9, 10, 11]) (.seq (.cond (.t 11) (.skip) (.exit 0)) (.seq (.block 1 (.seq (.reg o104n4 [1, 3, 5, 8, 9, 10]) (.seq (.seq (.reg o104n5 [1, 3, 5, 8, 9, 10, 21]) (.cond (.t 21) (.seq (.reg o104n6 [1, 2]) (.ret)) (.skip))) (.reg o104n7 [1, 3, 8, 9, 10])))) (.reg o104n8 [1, 3, 8, 9, 10]))))))) (.seq (.reg o104n9 [1, 2]) (.ret)))), [.tmp 2], [1]⟩
noncomputable def q104 (K : KTC) : FK := .seq (.reg (s104n0 K)) (.seq (.reg (s104n1 K)) (.seq (.seq (.reg (s104n2 K)) (.block 0 (.loop [1, 3, 8, 9, 10] (.seq (.reg (s104n3 K)) (.seq (.cond (.t 11) (.skip) (.exit 0)) (.seq (.block 1 (.seq (.reg (s104n4 K)) (.seq (.seq (.reg fun e k c p => wReg Tryz.prog K [1, 3, 5, 8, 9, 10, 21] o104n5 e k c p) (.cond (.t 21) (.seq (.reg (s104n6 K)) (.ret)) (.skip))) (.reg (s104n7 K))))) (.reg (s104n8 K)))))))) (.seq (.reg (s104n9 K)) (.ret))))
theorem ok104 (K : KTC) (K' : KT) (hK : CSound K K') : FitsC Tryz.prog K' (q104 K) r104.code := hs (p104n0 K _ hK) (hs (p104n1 K _ hK) (hs (hs (p104n2 K _ hK) (hb (hl (by decide +kernel) (hs (p104n3 K _ hK) (hs (hc (hk) (hx)) (hs (hb (hs (p104n4 K _ hK) (hs (hs (wslow_reg hK) (hc (hs (p104n6 K _ hK) (hr)) (hk))) (p104n7 K _ hK)))) (p104n8 K _ hK))))))) (hs (p104n9 K _ hK) (hr))))
noncomputable def g104 : HFn Tryz.prog := ⟨r104, q104, ok104⟩
theorem c104 : chkF Tryz.prog Tryz.f104 r104 = true := by decide +kernel

/-! doubletake/bucket.odd -/
def o105n0 : List RI := [⟨(some 2), none, (.q (.mov (.k (.bool false))))⟩]
noncomputable def b105n0 (K : KTC) (k : KS) (a0 : AV) (c : KN) (p : KV) : Kr :=
  c [(0, a0)] k
theorem e105n0 (K : KTC) (k : KS) (a0 : AV) (c : KN) (p : KV) : b105n0 K k a0 c p = wReg Tryz.prog K [0] o105n0 [(0, a0)] k c p := by unfold b105n0; kernel_rfl
noncomputable def s105n0 (K : KTC) (e : Env) (k : KS) (c : KN) (p : KV) : Kr := gt e 0 fun a0 => b105n0 K k a0 c p
theorem p105n0 (K : KTC) (K' : KT) (hK : CSound K K') : FitsC Tryz.prog K' (.reg (s105n0 K)) (.reg o105n0 [0]) := fun e k c p y h => by
  obtain ⟨a0, h0, h⟩ := gt_some h
  exact wreg_fit hK (by decide +kernel) (keep_cons h0 (keep_nil)) (e105n0 K k a0 c p) h
def o105n1 : List RI := [⟨(some 3), none, (.q (.mov (.t 0)))⟩, ⟨(some 4), none, (.ac (.callf 158 [(.t 3)]))⟩, ⟨(some 5), none, (.q (.mov (.t 4)))⟩, ⟨(some 6), (some (5, false)), (.q (.mov (.t 0)))⟩, ⟨(some 7), (some (5, false)), (.ac (.callf 159 [(.t 6), (.k (.int .i64 0))]))⟩, ⟨(some 8), none, (.q (.pick (.t 5) (.k (.bool true)) (.t 7)))⟩, ⟨(some 2), none, (.q (.mov (.t 8)))⟩]
def r105 : RFn := ⟨1, .seq (.reg o105n0 [0]) (.seq (.reg o105n1 [2]) (.ret)), [.tmp 2], []⟩
noncomputable def q105 (K : KTC) : FK := .seq (.reg (s105n0 K)) (.seq (.reg fun e k c p => wReg Tryz.prog K [2] o105n1 e k c p) (.ret))
theorem ok105 (K : KTC) (K' : KT) (hK : CSound K K') : FitsC Tryz.prog K' (q105 K) r105.code := hs (p105n0 K _ hK) (hs (wslow_reg hK) (hr))
noncomputable def g105 : HFn Tryz.prog := ⟨r105, q105, ok105⟩
theorem c105 : chkF Tryz.prog Tryz.f105 r105 = true := by decide +kernel

/-! doubletake/body.brought -/
def o106n0 : List RI := [⟨(some 6), none, (.q (.mov (.k (.int .i64 0))))⟩]
noncomputable def b106n0 (K : KTC) (k : KS) (a0 a1 a2 : AV) (c : KN) (p : KV) : Kr :=
  c [(0, a0), (1, a1), (2, a2)] k
theorem e106n0 (K : KTC) (k : KS) (a0 a1 a2 : AV) (c : KN) (p : KV) : b106n0 K k a0 a1 a2 c p = wReg Tryz.prog K [0, 1, 2] o106n0 [(0, a0), (1, a1), (2, a2)] k c p := by unfold b106n0; kernel_rfl
noncomputable def s106n0 (K : KTC) (e : Env) (k : KS) (c : KN) (p : KV) : Kr := gt e 0 fun a0 => gt e 1 fun a1 => gt e 2 fun a2 => b106n0 K k a0 a1 a2 c p
theorem p106n0 (K : KTC) (K' : KT) (hK : CSound K K') : FitsC Tryz.prog K' (.reg (s106n0 K)) (.reg o106n0 [0, 1, 2]) := fun e k c p y h => by
  obtain ⟨a0, h0, h⟩ := gt_some h
  obtain ⟨a1, h1, h⟩ := gt_some h
  obtain ⟨a2, h2, h⟩ := gt_some h
  exact wreg_fit hK (by decide +kernel) (keep_cons h0 (keep_cons h1 (keep_cons h2 (keep_nil)))) (e106n0 K k a0 a1 a2 c p) h
def o106n1 : List RI := [⟨(some 7), none, (.q (.mov (.t 1)))⟩, ⟨(some 8), none, (.q (.mov (.t 0)))⟩, ⟨(some 9), none, (.q (.mov (.t 2)))⟩, ⟨(some 10), none, (.q (.mm false [(.t 8), (.t 9)]))⟩, ⟨(some 11), none, (.q (.mm true [(.t 7), (.t 10)]))⟩, ⟨(some 6), none, (.q (.mov (.t 11)))⟩]
noncomputable def b106n1 (K : KTC) (k : KS) (a1 a0 a2 : AV) (c : KN) (p : KV) : Kr :=
  xMM false a0 a2 fun v0 =>
  xMM true a1 v0 fun v1 =>
  c [(6, v1)] k
theorem e106n1 (K : KTC) (k : KS) (a1 a0 a2 : AV) (c : KN) (p : KV) : b106n1 K k a1 a0 a2 c p = wReg Tryz.prog K [6] o106n1 [(1, a1), (0, a0), (2, a2)] k c p := by unfold b106n1; simp only [xMM_eq]; kernel_rfl
noncomputable def s106n1 (K : KTC) (e : Env) (k : KS) (c : KN) (p : KV) : Kr := gt e 1 fun a1 => gt e 0 fun a0 => gt e 2 fun a2 => b106n1 K k a1 a0 a2 c p
theorem p106n1 (K : KTC) (K' : KT) (hK : CSound K K') : FitsC Tryz.prog K' (.reg (s106n1 K)) (.reg o106n1 [6]) := fun e k c p y h => by
  obtain ⟨a1, h1, h⟩ := gt_some h
  obtain ⟨a0, h0, h⟩ := gt_some h
  obtain ⟨a2, h2, h⟩ := gt_some h
  exact wreg_fit hK (by decide +kernel) (keep_cons h1 (keep_cons h0 (keep_cons h2 (keep_nil)))) (e106n1 K k a1 a0 a2 c p) h
def r106 : RFn := ⟨3, .seq (.reg o106n0 [0, 1, 2]) (.seq (.reg o106n1 [6]) (.ret)), [.tmp 6], []⟩
noncomputable def q106 (K : KTC) : FK := .seq (.reg (s106n0 K)) (.seq (.reg (s106n1 K)) (.ret))
theorem ok106 (K : KTC) (K' : KT) (hK : CSound K K') : FitsC Tryz.prog K' (q106 K) r106.code := hs (p106n0 K _ hK) (hs (p106n1 K _ hK) (hr))
noncomputable def g106 : HFn Tryz.prog := ⟨r106, q106, ok106⟩
theorem c106 : chkF Tryz.prog Tryz.f106 r106 = true := by decide +kernel

/-! doubletake/step.Right -/
def o107n0 : List RI := [⟨(some 2), none, (.al (.box (.t 0)))⟩, ⟨(some 3), none, (.al (.box (.t 1)))⟩, ⟨(some 4), none, (.q (.mov (.k (.bool false))))⟩]
noncomputable def b107n0 (K : KTC) (k : KS) (a0 a1 : AV) (c : KN) (p : KV) : Kr :=
  pAl (evAl [(0, a0)] k.nx (.box (.t 0))) k fun v0 k0 =>
  pAl (evAl [(1, a1)] k0.nx (.box (.t 1))) k0 fun v1 k1 =>
  c [(2, v0), (3, v1)] k1
theorem e107n0 (K : KTC) (k : KS) (a0 a1 : AV) (c : KN) (p : KV) : b107n0 K k a0 a1 c p = wReg Tryz.prog K [2, 3] o107n0 [(0, a0), (1, a1)] k c p := by unfold b107n0; kernel_rfl
noncomputable def s107n0 (K : KTC) (e : Env) (k : KS) (c : KN) (p : KV) : Kr := gt e 0 fun a0 => gt e 1 fun a1 => b107n0 K k a0 a1 c p
theorem p107n0 (K : KTC) (K' : KT) (hK : CSound K K') : FitsC Tryz.prog K' (.reg (s107n0 K)) (.reg o107n0 [2, 3]) := fun e k c p y h => by
  obtain ⟨a0, h0, h⟩ := gt_some h
  obtain ⟨a1, h1, h⟩ := gt_some h
  exact wreg_fit hK (by decide +kernel) (keep_cons h0 (keep_cons h1 (keep_nil))) (e107n0 K k a0 a1 c p) h
def o107n1 : List RI := [⟨(some 9), none, (.q (.fld 2 2 (.t 3)))⟩, ⟨(some 10), none, (.rd (.ld true 192 (.t 9)))⟩, ⟨(some 11), none, (.q (.mov (.k (.int .i64 0))))⟩]
noncomputable def b107n1 (K : KTC) (k : KS) (a3 a2 : AV) (c : KN) (p : KV) : Kr :=
  xFld 2 2 a3 fun v0 =>
  xLd k.t true 192 v0 fun v1 =>
  c [(2, a2), (3, a3), (10, v1), (11, (.sc (.int .i64 0)))] k
theorem e107n1 (K : KTC) (k : KS) (a3 a2 : AV) (c : KN) (p : KV) : b107n1 K k a3 a2 c p = wReg Tryz.prog K [2, 3, 10, 11] o107n1 [(3, a3), (2, a2)] k c p := by unfold b107n1; simp only [xLd_eq, xFld_eq]; kernel_rfl
noncomputable def s107n1 (K : KTC) (e : Env) (k : KS) (c : KN) (p : KV) : Kr := gt e 3 fun a3 => gt e 2 fun a2 => b107n1 K k a3 a2 c p
theorem p107n1 (K : KTC) (K' : KT) (hK : CSound K K') : FitsC Tryz.prog K' (.reg (s107n1 K)) (.reg o107n1 [2, 3, 10, 11]) := fun e k c p y h => by
  obtain ⟨a3, h3, h⟩ := gt_some h
  obtain ⟨a2, h2, h⟩ := gt_some h
  exact wreg_fit hK (by decide +kernel) (keep_cons h3 (keep_cons h2 (keep_nil))) (e107n1 K k a3 a2 c p) h
def o107n2 : List RI := [⟨(some 12), none, (.q (.bin .lss 3 (.t 11) (.k (.int .i64 16))))⟩]
noncomputable def b107n2 (K : KTC) (k : KS) (a11 a2 a3 a10 : AV) (x : Env) (c : KN) (p : KV) : Kr :=
  xLss 3 a11 (.sc (.int .i64 16)) fun v0 =>
  c (Env.keep ([(2, a2), (3, a3), (10, a10), (11, a11), (12, v0)] ++ x) [2, 3, 6, 10, 11, 12]) k
theorem e107n2 (K : KTC) (k : KS) (a11 a2 a3 a10 : AV) (x : Env) (c : KN) (p : KV) : b107n2 K k a11 a2 a3 a10 x c p = wReg Tryz.prog K [2, 3, 6, 10, 11, 12] o107n2 ([(11, a11), (2, a2), (3, a3), (10, a10)] ++ x) k c p := by unfold b107n2; simp only [xLss_eq]; kernel_rfl
noncomputable def s107n2 (K : KTC) (e : Env) (k : KS) (c : KN) (p : KV) : Kr := gt e 11 fun a11 => gt e 2 fun a2 => gt e 3 fun a3 => gt e 10 fun a10 => b107n2 K k a11 a2 a3 a10 (e.keep [6]) c p
theorem p107n2 (K : KTC) (K' : KT) (hK : CSound K K') : FitsC Tryz.prog K' (.reg (s107n2 K)) (.reg o107n2 [2, 3, 6, 10, 11, 12]) := fun e k c p y h => by
  obtain ⟨a11, h11, h⟩ := gt_some h
  obtain ⟨a2, h2, h⟩ := gt_some h
  obtain ⟨a3, h3, h⟩ := gt_some h
  obtain ⟨a10, h10, h⟩ := gt_some h
  exact wreg_fit hK (by decide +kernel) (keep_cons h11 (keep_cons h2 (keep_cons h3 (keep_cons h10 (rfl))))) (e107n2 K k a11 a2 a3 a10 (e.keep [6]) c p) h
def o107n3 : List RI := [⟨(some 13), none, (.q (.mov (.t 11)))⟩, ⟨(some 14), none, (.q (.ixv 16 12 true (.t 10) (.t 11)))⟩, ⟨(some 6), none, (.al (.alloc (.agg [1, 1, 1, 1, 1, 1, 1, 4, 1] [(.sc (.int .i64 0)), (.sc (.int .i64 0)), (.sc (.int .i64 0)), (.sc (.int .i64 0)), (.sc (.int .i64 0)), (.sc (.int .i64 0)), (.sc (.int .i64 0)), (.arr 1 (List.replicate 4 (.sc (.int .i64 0)))), (.sc (.int .i64 0))])))⟩, ⟨(some 5), none, (.q (.mov (.t 13)))⟩, ⟨none, none, (.ac (.st 12 (.t 6) (.t 14)))⟩]
noncomputable def b107n3 (K : KTC) (k : KS) (a11 a10 a2 a3 : AV) (c : KN) (p : KV) : Kr :=
  (kQ Tryz.prog [(10, a10), (11, a11)] (.ixv 16 12 true (.t 10) (.t 11))).bind fun v0 =>
  xAlloc (.agg [1, 1, 1, 1, 1, 1, 1, 4, 1] [(.sc (.int .i64 0)), (.sc (.int .i64 0)), (.sc (.int .i64 0)), (.sc (.int .i64 0)), (.sc (.int .i64 0)), (.sc (.int .i64 0)), (.sc (.int .i64 0)), (.arr 1 (List.replicate 4 (.sc (.int .i64 0)))), (.sc (.int .i64 0))]) k fun v1 k1 =>
  pCall (kA (fun _ _ _ => none) [(6, v1), (14, v0)] k1 (.st 12 (.t 6) (.t 14))) (fun v2 k2 =>
  c [(2, a2), (3, a3), (5, a11), (6, v1), (10, a10), (11, a11)] k2) (p)
theorem e107n3 (K : KTC) (k : KS) (a11 a10 a2 a3 : AV) (c : KN) (p : KV) : b107n3 K k a11 a10 a2 a3 c p = wReg Tryz.prog K [2, 3, 5, 6, 10, 11] o107n3 [(11, a11), (10, a10), (2, a2), (3, a3)] k c p := by unfold b107n3; simp only [xAlloc_eq]; kernel_rfl
noncomputable def s107n3 (K : KTC) (e : Env) (k : KS) (c : KN) (p : KV) : Kr := gt e 11 fun a11 => gt e 10 fun a10 => gt e 2 fun a2 => gt e 3 fun a3 => b107n3 K k a11 a10 a2 a3 c p
theorem p107n3 (K : KTC) (K' : KT) (hK : CSound K K') : FitsC Tryz.prog K' (.reg (s107n3 K)) (.reg o107n3 [2, 3, 5, 6, 10, 11]) := fun e k c p y h => by
  obtain ⟨a11, h11, h⟩ := gt_some h
  obtain ⟨a10, h10, h⟩ := gt_some h
  obtain ⟨a2, h2, h⟩ := gt_some h
  obtain ⟨a3, h3, h⟩ := gt_some h
  exact wreg_fit hK (by decide +kernel) (keep_cons h11 (keep_cons h10 (keep_cons h2 (keep_cons h3 (keep_nil))))) (e107n3 K k a11 a10 a2 a3 c p) h
def o107n4 : List RI := [⟨(some 15), none, (.rd (.ld true 10 (.t 2)))⟩, ⟨(some 16), none, (.q (.mov (.t 5)))⟩, ⟨(some 17), none, (.rd (.ld true 12 (.t 6)))⟩, ⟨(some 18), none, (.ac (.callf 160 [(.t 15), (.t 16), (.t 17)]))⟩, ⟨(some 19), none, (.q (.un .not (.t 18)))⟩]
noncomputable def b107n4 (K : KTC) (k : KS) (a2 a5 a6 a3 a10 a11 : AV) (c : KN) (p : KV) : Kr :=
  xLd k.t true 10 a2 fun v0 =>
  xLd k.t true 12 a6 fun v1 =>
  K 160 [v0, a5, v1] k (fun v2 k2 =>
  (kQ Tryz.prog [(18, v2)] (.un .not (.t 18))).bind fun v3 =>
  c [(2, a2), (3, a3), (6, a6), (10, a10), (11, a11), (19, v3)] k2) (p)
theorem e107n4 (K : KTC) (k : KS) (a2 a5 a6 a3 a10 a11 : AV) (c : KN) (p : KV) : b107n4 K k a2 a5 a6 a3 a10 a11 c p = wReg Tryz.prog K [2, 3, 6, 10, 11, 19] o107n4 [(2, a2), (5, a5), (6, a6), (3, a3), (10, a10), (11, a11)] k c p := by unfold b107n4; simp only [xLd_eq]; kernel_rfl
noncomputable def s107n4 (K : KTC) (e : Env) (k : KS) (c : KN) (p : KV) : Kr := gt e 2 fun a2 => gt e 5 fun a5 => gt e 6 fun a6 => gt e 3 fun a3 => gt e 10 fun a10 => gt e 11 fun a11 => b107n4 K k a2 a5 a6 a3 a10 a11 c p
theorem p107n4 (K : KTC) (K' : KT) (hK : CSound K K') : FitsC Tryz.prog K' (.reg (s107n4 K)) (.reg o107n4 [2, 3, 6, 10, 11, 19]) := fun e k c p y h => by
  obtain ⟨a2, h2, h⟩ := gt_some h
  obtain ⟨a5, h5, h⟩ := gt_some h
  obtain ⟨a6, h6, h⟩ := gt_some h
  obtain ⟨a3, h3, h⟩ := gt_some h
  obtain ⟨a10, h10, h⟩ := gt_some h
  obtain ⟨a11, h11, h⟩ := gt_some h
  exact wreg_fit hK (by decide +kernel) (keep_cons h2 (keep_cons h5 (keep_cons h6 (keep_cons h3 (keep_cons h10 (keep_cons h11 (keep_nil))))))) (e107n4 K k a2 a5 a6 a3 a10 a11 c p) h
def o107n5 : List RI := [⟨(some 4), none, (.q (.mov (.k (.bool false))))⟩]
noncomputable def b107n5 (K : KTC) (k : KS) (a2 a3 a6 : AV) (c : KN) (p : KV) : Kr :=
  c [(2, a2), (3, a3), (4, (.sc (.bool false))), (6, a6)] k
theorem e107n5 (K : KTC) (k : KS) (a2 a3 a6 : AV) (c : KN) (p : KV) : b107n5 K k a2 a3 a6 c p = wReg Tryz.prog K [2, 3, 4, 6] o107n5 [(2, a2), (3, a3), (6, a6)] k c p := by unfold b107n5; kernel_rfl
noncomputable def s107n5 (K : KTC) (e : Env) (k : KS) (c : KN) (p : KV) : Kr := gt e 2 fun a2 => gt e 3 fun a3 => gt e 6 fun a6 => b107n5 K k a2 a3 a6 c p
theorem p107n5 (K : KTC) (K' : KT) (hK : CSound K K') : FitsC Tryz.prog K' (.reg (s107n5 K)) (.reg o107n5 [2, 3, 4, 6]) := fun e k c p y h => by
  obtain ⟨a2, h2, h⟩ := gt_some h
  obtain ⟨a3, h3, h⟩ := gt_some h
  obtain ⟨a6, h6, h⟩ := gt_some h
  exact wreg_fit hK (by decide +kernel) (keep_cons h2 (keep_cons h3 (keep_cons h6 (keep_nil)))) (e107n5 K k a2 a3 a6 c p) h
def o107n6 : List RI := [⟨(some 20), none, (.q (.bin .add 3 (.t 11) (.k (.int .i64 1))))⟩, ⟨(some 11), none, (.q (.mov (.t 20)))⟩]
noncomputable def b107n6 (K : KTC) (k : KS) (a11 a2 a3 a6 a10 : AV) (c : KN) (p : KV) : Kr :=
  xAdd 3 a11 (.sc (.int .i64 1)) fun v0 =>
  c [(2, a2), (3, a3), (6, a6), (10, a10), (11, v0)] k
theorem e107n6 (K : KTC) (k : KS) (a11 a2 a3 a6 a10 : AV) (c : KN) (p : KV) : b107n6 K k a11 a2 a3 a6 a10 c p = wReg Tryz.prog K [2, 3, 6, 10, 11] o107n6 [(11, a11), (2, a2), (3, a3), (6, a6), (10, a10)] k c p := by unfold b107n6; simp only [xAdd_eq]; kernel_rfl
noncomputable def s107n6 (K : KTC) (e : Env) (k : KS) (c : KN) (p : KV) : Kr := gt e 11 fun a11 => gt e 2 fun a2 => gt e 3 fun a3 => gt e 6 fun a6 => gt e 10 fun a10 => b107n6 K k a11 a2 a3 a6 a10 c p
theorem p107n6 (K : KTC) (K' : KT) (hK : CSound K K') : FitsC Tryz.prog K' (.reg (s107n6 K)) (.reg o107n6 [2, 3, 6, 10, 11]) := fun e k c p y h => by
  obtain ⟨a11, h11, h⟩ := gt_some h
  obtain ⟨a2, h2, h⟩ := gt_some h
  obtain ⟨a3, h3, h⟩ := gt_some h
  obtain ⟨a6, h6, h⟩ := gt_some h
  obtain ⟨a10, h10, h⟩ := gt_some h
  exact wreg_fit hK (by decide +kernel) (keep_cons h11 (keep_cons h2 (keep_cons h3 (keep_cons h6 (keep_cons h10 (keep_nil)))))) (e107n6 K k a11 a2 a3 a6 a10 c p) h
def o107n7 : List RI := [⟨(some 21), none, (.q (.fld 3 194 (.t 3)))⟩, ⟨(some 22), none, (.rd (.ld true 8 (.t 21)))⟩, ⟨(some 23), none, (.q (.mov (.k (.int .i64 0))))⟩]
noncomputable def b107n7 (K : KTC) (k : KS) (a3 a2 : AV) (x : Env) (c : KN) (p : KV) : Kr :=
  xFld 3 194 a3 fun v0 =>
  xLd k.t true 8 v0 fun v1 =>
  c (Env.keep ([(2, a2), (3, a3), (22, v1), (23, (.sc (.int .i64 0)))] ++ x) [2, 3, 6, 22, 23]) k
theorem e107n7 (K : KTC) (k : KS) (a3 a2 : AV) (x : Env) (c : KN) (p : KV) : b107n7 K k a3 a2 x c p = wReg Tryz.prog K [2, 3, 6, 22, 23] o107n7 ([(3, a3), (2, a2)] ++ x) k c p := by unfold b107n7; simp only [xLd_eq, xFld_eq]; kernel_rfl
noncomputable def s107n7 (K : KTC) (e : Env) (k : KS) (c : KN) (p : KV) : Kr := gt e 3 fun a3 => gt e 2 fun a2 => b107n7 K k a3 a2 (e.keep [6]) c p
theorem p107n7 (K : KTC) (K' : KT) (hK : CSound K K') : FitsC Tryz.prog K' (.reg (s107n7 K)) (.reg o107n7 [2, 3, 6, 22, 23]) := fun e k c p y h => by
  obtain ⟨a3, h3, h⟩ := gt_some h
  obtain ⟨a2, h2, h⟩ := gt_some h
  exact wreg_fit hK (by decide +kernel) (keep_cons h3 (keep_cons h2 (rfl))) (e107n7 K k a3 a2 (e.keep [6]) c p) h
def o107n8 : List RI := [⟨(some 24), none, (.q (.bin .lss 3 (.t 23) (.k (.int .i64 8))))⟩]
noncomputable def b107n8 (K : KTC) (k : KS) (a23 a2 a3 a22 : AV) (x : Env) (c : KN) (p : KV) : Kr :=
  xLss 3 a23 (.sc (.int .i64 8)) fun v0 =>
  c (Env.keep ([(2, a2), (3, a3), (22, a22), (23, a23), (24, v0)] ++ x) [2, 3, 6, 22, 23, 24]) k
theorem e107n8 (K : KTC) (k : KS) (a23 a2 a3 a22 : AV) (x : Env) (c : KN) (p : KV) : b107n8 K k a23 a2 a3 a22 x c p = wReg Tryz.prog K [2, 3, 6, 22, 23, 24] o107n8 ([(23, a23), (2, a2), (3, a3), (22, a22)] ++ x) k c p := by unfold b107n8; simp only [xLss_eq]; kernel_rfl
noncomputable def s107n8 (K : KTC) (e : Env) (k : KS) (c : KN) (p : KV) : Kr := gt e 23 fun a23 => gt e 2 fun a2 => gt e 3 fun a3 => gt e 22 fun a22 => b107n8 K k a23 a2 a3 a22 (e.keep [6]) c p
theorem p107n8 (K : KTC) (K' : KT) (hK : CSound K K') : FitsC Tryz.prog K' (.reg (s107n8 K)) (.reg o107n8 [2, 3, 6, 22, 23, 24]) := fun e k c p y h => by
  obtain ⟨a23, h23, h⟩ := gt_some h
  obtain ⟨a2, h2, h⟩ := gt_some h
  obtain ⟨a3, h3, h⟩ := gt_some h
  obtain ⟨a22, h22, h⟩ := gt_some h
  exact wreg_fit hK (by decide +kernel) (keep_cons h23 (keep_cons h2 (keep_cons h3 (keep_cons h22 (rfl))))) (e107n8 K k a23 a2 a3 a22 (e.keep [6]) c p) h
def o107n9 : List RI := [⟨(some 25), none, (.q (.mov (.t 23)))⟩, ⟨(some 26), none, (.q (.ixv 8 1 false (.t 22) (.t 23)))⟩, ⟨(some 7), none, (.q (.mov (.t 25)))⟩, ⟨(some 8), none, (.q (.mov (.t 26)))⟩]
noncomputable def b107n9 (K : KTC) (k : KS) (a23 a22 a2 a3 : AV) (x : Env) (c : KN) (p : KV) : Kr :=
  (kQ Tryz.prog [(22, a22), (23, a23)] (.ixv 8 1 false (.t 22) (.t 23))).bind fun v0 =>
  c (Env.keep ([(2, a2), (3, a3), (7, a23), (8, v0), (22, a22), (23, a23)] ++ x) [2, 3, 6, 7, 8, 22, 23]) k
theorem e107n9 (K : KTC) (k : KS) (a23 a22 a2 a3 : AV) (x : Env) (c : KN) (p : KV) : b107n9 K k a23 a22 a2 a3 x c p = wReg Tryz.prog K [2, 3, 6, 7, 8, 22, 23] o107n9 ([(23, a23), (22, a22), (2, a2), (3, a3)] ++ x) k c p := by unfold b107n9; kernel_rfl
noncomputable def s107n9 (K : KTC) (e : Env) (k : KS) (c : KN) (p : KV) : Kr := gt e 23 fun a23 => gt e 22 fun a22 => gt e 2 fun a2 => gt e 3 fun a3 => b107n9 K k a23 a22 a2 a3 (e.keep [6]) c p
theorem p107n9 (K : KTC) (K' : KT) (hK : CSound K K') : FitsC Tryz.prog K' (.reg (s107n9 K)) (.reg o107n9 [2, 3, 6, 7, 8, 22, 23]) := fun e k c p y h => by
  obtain ⟨a23, h23, h⟩ := gt_some h
  obtain ⟨a22, h22, h⟩ := gt_some h
  obtain ⟨a2, h2, h⟩ := gt_some h
  obtain ⟨a3, h3, h⟩ := gt_some h
  exact wreg_fit hK (by decide +kernel) (keep_cons h23 (keep_cons h22 (keep_cons h2 (keep_cons h3 (rfl))))) (e107n9 K k a23 a22 a2 a3 (e.keep [6]) c p) h
def o107n10 : List RI := [⟨(some 27), none, (.q (.mov (.t 8)))⟩, ⟨(some 28), none, (.ac (.callf 102 [(.t 27), (.k (.int .i64 0)), (.k (.int .i64 2147483647))]))⟩, ⟨(some 29), none, (.q (.un .not (.t 28)))⟩, ⟨(some 30), none, (.q (.mov (.t 29)))⟩, ⟨(some 31), (some (30, false)), (.q (.mov (.t 7)))⟩, ⟨(some 32), (some (30, false)), (.q (.fld 0 0 (.t 2)))⟩, ⟨(some 33), (some (30, false)), (.rd (.ld false 1 (.t 32)))⟩, ⟨(some 34), (some (30, false)), (.q (.bin .geq 3 (.t 31) (.t 33)))⟩, ⟨(some 35), (some (30, false)), (.q (.mov (.t 34)))⟩, ⟨(some 36), (some (35, true)), (.q (.mov (.t 8)))⟩, ⟨(some 37), (some (35, true)), (.q (.bin .neq 3 (.t 36) (.k (.int .i64 0))))⟩, ⟨(some 38), (some (30, false)), (.q (.pick (.t 35) (.t 37) (.k (.bool false))))⟩, ⟨(some 39), none, (.q (.pick (.t 30) (.k (.bool true)) (.t 38)))⟩]
def o107n11 : List RI := [⟨(some 4), none, (.q (.mov (.k (.bool false))))⟩]
noncomputable def b107n11 (K : KTC) (k : KS) (a2 a3 : AV) (x : Env) (c : KN) (p : KV) : Kr :=
  c (Env.keep ([(2, a2), (3, a3), (4, (.sc (.bool false)))] ++ x) [2, 3, 4, 6]) k
theorem e107n11 (K : KTC) (k : KS) (a2 a3 : AV) (x : Env) (c : KN) (p : KV) : b107n11 K k a2 a3 x c p = wReg Tryz.prog K [2, 3, 4, 6] o107n11 ([(2, a2), (3, a3)] ++ x) k c p := by unfold b107n11; kernel_rfl
noncomputable def s107n11 (K : KTC) (e : Env) (k : KS) (c : KN) (p : KV) : Kr := gt e 2 fun a2 => gt e 3 fun a3 => b107n11 K k a2 a3 (e.keep [6]) c p
theorem p107n11 (K : KTC) (K' : KT) (hK : CSound K K') : FitsC Tryz.prog K' (.reg (s107n11 K)) (.reg o107n11 [2, 3, 4, 6]) := fun e k c p y h => by
  obtain ⟨a2, h2, h⟩ := gt_some h
  obtain ⟨a3, h3, h⟩ := gt_some h
  exact wreg_fit hK (by decide +kernel) (keep_cons h2 (keep_cons h3 (rfl))) (e107n11 K k a2 a3 (e.keep [6]) c p) h
def o107n12 : List RI := [⟨(some 40), none, (.q (.bin .add 3 (.t 23) (.k (.int .i64 1))))⟩, ⟨(some 23), none, (.q (.mov (.t 40)))⟩]
noncomputable def b107n12 (K : KTC) (k : KS) (a23 a2 a3 a22 : AV) (x : Env) (c : KN) (p : KV) : Kr :=
  xAdd 3 a23 (.sc (.int .i64 1)) fun v0 =>
  c (Env.keep ([(2, a2), (3, a3), (22, a22), (23, v0)] ++ x) [2, 3, 6, 22, 23]) k
theorem e107n12 (K : KTC) (k : KS) (a23 a2 a3 a22 : AV) (x : Env) (c : KN) (p : KV) : b107n12 K k a23 a2 a3 a22 x c p = wReg Tryz.prog K [2, 3, 6, 22, 23] o107n12 ([(23, a23), (2, a2), (3, a3), (22, a22)] ++ x) k c p := by unfold b107n12; simp only [xAdd_eq]; kernel_rfl
noncomputable def s107n12 (K : KTC) (e : Env) (k : KS) (c : KN) (p : KV) : Kr := gt e 23 fun a23 => gt e 2 fun a2 => gt e 3 fun a3 => gt e 22 fun a22 => b107n12 K k a23 a2 a3 a22 (e.keep [6]) c p
theorem p107n12 (K : KTC) (K' : KT) (hK : CSound K K') : FitsC Tryz.prog K' (.reg (s107n12 K)) (.reg o107n12 [2, 3, 6, 22, 23]) := fun e k c p y h => by
  obtain ⟨a23, h23, h⟩ := gt_some h
  obtain ⟨a2, h2, h⟩ := gt_some h
  obtain ⟨a3, h3, h⟩ := gt_some h
  obtain ⟨a22, h22, h⟩ := gt_some h
  exact wreg_fit hK (by decide +kernel) (keep_cons h23 (keep_cons h2 (keep_cons h3 (keep_cons h22 (rfl))))) (e107n12 K k a23 a2 a3 a22 (e.keep [6]) c p) h
def o107n13 : List RI := [⟨(some 41), none, (.rd (.ld true 10 (.t 2)))⟩, ⟨(some 42), none, (.ac (.callf 64 [(.t 41)]))⟩, ⟨(some 43), none, (.q (.mov (.t 42)))⟩, ⟨(some 44), (some (43, true)), (.q (.fld 0 0 (.t 3)))⟩, ⟨(some 45), (some (43, true)), (.rd (.ld false 1 (.t 44)))⟩, ⟨(some 46), (some (43, true)), (.ac (.callf 102 [(.t 45), (.k (.int .i64 0)), (.k (.int .i64 600))]))⟩, ⟨(some 47), none, (.q (.pick (.t 43) (.t 46) (.k (.bool false))))⟩, ⟨(some 4), none, (.q (.mov (.t 47)))⟩]
def r107 : RFn := ⟨2, .seq (.reg o107n0 [2, 3]) (.seq (.seq (.reg o107n1 [2, 3, 10, 11]) (.block 0 (.loop [2, 3, 10, 11] (.free [6] (.seq (.reg o107n2 [2, 3, 6, 10, 11, 12]) (.seq (.cond (.t 12) (.skip) (.exit 0)) (.seq (.block 1 (.seq (.reg o107n3 [2, 3, 5, 6, 10, 11]) (.seq (.reg o107n4 [2, 3, 6, 10, 11, 19]) (.cond (.t 19) (.seq (.reg o107n5 [2, 3, 4, 6]) (.ret)) (.skip))))) (.reg o107n6 [2, 3, 6, 10, 11])))))))) (.seq (.seq (.reg o107n7 [2, 3, 6, 22, 23]) (.block 2 (.loop [2, 3, 6, 22, 23] (.seq (.reg o107n8 [2, 3, 6, 22, 23, 24]) (.seq (.cond (.t 24) (.skip) (.exit 2)) (.seq (.block 3 (.seq (.reg o107n9 [2, 3, 6, 7, 8, 22, 23]) (.seq (.reg o107n10 [2, 3, 6, 22, 23, 39]) (.cond (.t 39) (.seq (.reg o107n11 [2, 3, 4, 6]) (.ret)) (.skip))))) (.reg o107n12 [2, 3, 6, 22, 23]))))))) (.seq (.reg o107n13 [2, 3, 4, 6]) (.ret)))), [.tmp 4], [2, 3, 6]⟩
noncomputable def q107 (K : KTC) : FK := .seq (.reg (s107n0 K)) (.seq (.seq (.reg (s107n1 K)) (.block 0 (.loop [2, 3, 10, 11] (.free [6] (.seq (.reg (s107n2 K)) (.seq (.cond (.t 12) (.skip) (.exit 0)) (.seq (.block 1 (.seq (.reg (s107n3 K)) (.seq (.reg (s107n4 K)) (.cond (.t 19) (.seq (.reg (s107n5 K)) (.ret)) (.skip))))) (.reg (s107n6 K))))))))) (.seq (.seq (.reg (s107n7 K)) (.block 2 (.loop [2, 3, 6, 22, 23] (.seq (.reg (s107n8 K)) (.seq (.cond (.t 24) (.skip) (.exit 2)) (.seq (.block 3 (.seq (.reg (s107n9 K)) (.seq (.reg fun e k c p => wReg Tryz.prog K [2, 3, 6, 22, 23, 39] o107n10 e k c p) (.cond (.t 39) (.seq (.reg (s107n11 K)) (.ret)) (.skip))))) (.reg (s107n12 K)))))))) (.seq (.reg fun e k c p => wReg Tryz.prog K [2, 3, 4, 6] o107n13 e k c p) (.ret))))
theorem ok107 (K : KTC) (K' : KT) (hK : CSound K K') : FitsC Tryz.prog K' (q107 K) r107.code := hs (p107n0 K _ hK) (hs (hs (p107n1 K _ hK) (hb (hl (by decide +kernel) (hf (hs (p107n2 K _ hK) (hs (hc (hk) (hx)) (hs (hb (hs (p107n3 K _ hK) (hs (p107n4 K _ hK) (hc (hs (p107n5 K _ hK) (hr)) (hk))))) (p107n6 K _ hK)))))))) (hs (hs (p107n7 K _ hK) (hb (hl (by decide +kernel) (hs (p107n8 K _ hK) (hs (hc (hk) (hx)) (hs (hb (hs (p107n9 K _ hK) (hs (wslow_reg hK) (hc (hs (p107n11 K _ hK) (hr)) (hk))))) (p107n12 K _ hK))))))) (hs (wslow_reg hK) (hr))))
noncomputable def g107 : HFn Tryz.prog := ⟨r107, q107, ok107⟩
theorem c107 : chkF Tryz.prog Tryz.f107 r107 = true := by decide +kernel

/-- doubletake/bits.NewWriter -/
def r108 : RFn := ⟨0,
  .seq (
  .reg [⟨(some 0), none, (.q (.mov .nilp))⟩] []) (
  .seq (
  .reg [⟨(some 1), none, (.q (.bld (.agg [1, 1] [(.slice none 0), (.sc (.int .i64 0))]) []))⟩,
    ⟨(some 2), none, (.al (.box (.t 1)))⟩,
    ⟨(some 0), none, (.q (.mov (.t 2)))⟩] [0]) (
  .ret)),
  [.tmp 0], []⟩
noncomputable def g108 : HFn Tryz.prog := ⟨r108, fun K => wslow Tryz.prog K r108.code, fun _ _ hK => wslow_fits hK _ (by decide +kernel)⟩
theorem c108 : chkF Tryz.prog Tryz.f108 r108 = true := by decide +kernel

/-! (*doubletake/bits.Writer).Put -/
def o109n0 : List RI := [⟨(some 7), none, (.q (.mov (.t 2)))⟩, ⟨(some 8), none, (.ac (.callf 161 [(.t 7)]))⟩, ⟨(some 9), none, (.q (.bin .sub 3 (.t 8) (.k (.int .i64 1))))⟩, ⟨(some 6), none, (.q (.mov (.t 9)))⟩]
noncomputable def b109n0 (K : KTC) (k : KS) (a2 a0 a1 : AV) (c : KN) (p : KV) : Kr :=
  K 161 [a2] k (fun v0 k0 =>
  xSub 3 v0 (.sc (.int .i64 1)) fun v1 =>
  c [(0, a0), (1, a1), (6, v1)] k0) (p)
theorem e109n0 (K : KTC) (k : KS) (a2 a0 a1 : AV) (c : KN) (p : KV) : b109n0 K k a2 a0 a1 c p = wReg Tryz.prog K [0, 1, 6] o109n0 [(2, a2), (0, a0), (1, a1)] k c p := by unfold b109n0; simp only [xSub_eq]; kernel_rfl
noncomputable def s109n0 (K : KTC) (e : Env) (k : KS) (c : KN) (p : KV) : Kr := gt e 2 fun a2 => gt e 0 fun a0 => gt e 1 fun a1 => b109n0 K k a2 a0 a1 c p
theorem p109n0 (K : KTC) (K' : KT) (hK : CSound K K') : FitsC Tryz.prog K' (.reg (s109n0 K)) (.reg o109n0 [0, 1, 6]) := fun e k c p y h => by
  obtain ⟨a2, h2, h⟩ := gt_some h
  obtain ⟨a0, h0, h⟩ := gt_some h
  obtain ⟨a1, h1, h⟩ := gt_some h
  exact wreg_fit hK (by decide +kernel) (keep_cons h2 (keep_cons h0 (keep_cons h1 (keep_nil)))) (e109n0 K k a2 a0 a1 c p) h
def o109n1 : List RI := [⟨(some 10), none, (.q (.mov (.t 6)))⟩, ⟨(some 11), none, (.q (.bin .geq 3 (.t 10) (.k (.int .i64 0))))⟩]
noncomputable def b109n1 (K : KTC) (k : KS) (a6 a0 a1 : AV) (c : KN) (p : KV) : Kr :=
  xGeq 3 a6 (.sc (.int .i64 0)) fun v0 =>
  c [(0, a0), (1, a1), (6, a6), (11, v0)] k
theorem e109n1 (K : KTC) (k : KS) (a6 a0 a1 : AV) (c : KN) (p : KV) : b109n1 K k a6 a0 a1 c p = wReg Tryz.prog K [0, 1, 6, 11] o109n1 [(6, a6), (0, a0), (1, a1)] k c p := by unfold b109n1; simp only [xGeq_eq]; kernel_rfl
noncomputable def s109n1 (K : KTC) (e : Env) (k : KS) (c : KN) (p : KV) : Kr := gt e 6 fun a6 => gt e 0 fun a0 => gt e 1 fun a1 => b109n1 K k a6 a0 a1 c p
theorem p109n1 (K : KTC) (K' : KT) (hK : CSound K K') : FitsC Tryz.prog K' (.reg (s109n1 K)) (.reg o109n1 [0, 1, 6, 11]) := fun e k c p y h => by
  obtain ⟨a6, h6, h⟩ := gt_some h
  obtain ⟨a0, h0, h⟩ := gt_some h
  obtain ⟨a1, h1, h⟩ := gt_some h
  exact wreg_fit hK (by decide +kernel) (keep_cons h6 (keep_cons h0 (keep_cons h1 (keep_nil)))) (e109n1 K k a6 a0 a1 c p) h
def o109n2 : List RI := [⟨(some 14), none, (.q (.mov (.t 0)))⟩, ⟨(some 15), none, (.q (.mov (.t 1)))⟩, ⟨(some 16), none, (.q (.mov (.t 6)))⟩, ⟨(some 17), none, (.q (.bin .shr 39 (.t 15) (.t 16)))⟩, ⟨(some 18), none, (.q (.bin .and 39 (.t 17) (.k (.int .u64 1))))⟩, ⟨(some 19), none, (.ac (.callf 162 [(.t 14), (.t 18)]))⟩]
noncomputable def b109n2 (K : KTC) (k : KS) (a0 a1 a6 : AV) (c : KN) (p : KV) : Kr :=
  xShr 39 a1 a6 fun v0 =>
  xAnd 39 v0 (.sc (.int .u64 1)) fun v1 =>
  K 162 [a0, v1] k (fun v2 k2 =>
  c [(0, a0), (1, a1), (6, a6)] k2) (p)
theorem e109n2 (K : KTC) (k : KS) (a0 a1 a6 : AV) (c : KN) (p : KV) : b109n2 K k a0 a1 a6 c p = wReg Tryz.prog K [0, 1, 6] o109n2 [(0, a0), (1, a1), (6, a6)] k c p := by unfold b109n2; simp only [xAnd_eq, xShr_eq]; kernel_rfl
noncomputable def s109n2 (K : KTC) (e : Env) (k : KS) (c : KN) (p : KV) : Kr := gt e 0 fun a0 => gt e 1 fun a1 => gt e 6 fun a6 => b109n2 K k a0 a1 a6 c p
theorem p109n2 (K : KTC) (K' : KT) (hK : CSound K K') : FitsC Tryz.prog K' (.reg (s109n2 K)) (.reg o109n2 [0, 1, 6]) := fun e k c p y h => by
  obtain ⟨a0, h0, h⟩ := gt_some h
  obtain ⟨a1, h1, h⟩ := gt_some h
  obtain ⟨a6, h6, h⟩ := gt_some h
  exact wreg_fit hK (by decide +kernel) (keep_cons h0 (keep_cons h1 (keep_cons h6 (keep_nil)))) (e109n2 K k a0 a1 a6 c p) h
def o109n3 : List RI := [⟨(some 12), none, (.q (.mov (.t 6)))⟩, ⟨(some 13), none, (.q (.bin .sub 3 (.t 12) (.k (.int .i64 1))))⟩, ⟨(some 6), none, (.q (.mov (.t 13)))⟩]
noncomputable def b109n3 (K : KTC) (k : KS) (a6 a0 a1 : AV) (c : KN) (p : KV) : Kr :=
  xSub 3 a6 (.sc (.int .i64 1)) fun v0 =>
  c [(0, a0), (1, a1), (6, v0)] k
theorem e109n3 (K : KTC) (k : KS) (a6 a0 a1 : AV) (c : KN) (p : KV) : b109n3 K k a6 a0 a1 c p = wReg Tryz.prog K [0, 1, 6] o109n3 [(6, a6), (0, a0), (1, a1)] k c p := by unfold b109n3; simp only [xSub_eq]; kernel_rfl
noncomputable def s109n3 (K : KTC) (e : Env) (k : KS) (c : KN) (p : KV) : Kr := gt e 6 fun a6 => gt e 0 fun a0 => gt e 1 fun a1 => b109n3 K k a6 a0 a1 c p
theorem p109n3 (K : KTC) (K' : KT) (hK : CSound K K') : FitsC Tryz.prog K' (.reg (s109n3 K)) (.reg o109n3 [0, 1, 6]) := fun e k c p y h => by
  obtain ⟨a6, h6, h⟩ := gt_some h
  obtain ⟨a0, h0, h⟩ := gt_some h
  obtain ⟨a1, h1, h⟩ := gt_some h
  exact wreg_fit hK (by decide +kernel) (keep_cons h6 (keep_cons h0 (keep_cons h1 (keep_nil)))) (e109n3 K k a6 a0 a1 c p) h
def r109 : RFn := ⟨3, .seq (.reg o109n0 [0, 1, 6]) (.block 0 (.loop [0, 1, 6] (.seq (.seq (.reg o109n1 [0, 1, 6, 11]) (.cond (.t 11) (.skip) (.exit 0))) (.seq (.block 1 (.reg o109n2 [0, 1, 6])) (.reg o109n3 [0, 1, 6]))))), [], []⟩
noncomputable def q109 (K : KTC) : FK := .seq (.reg (s109n0 K)) (.block 0 (.loop [0, 1, 6] (.seq (.seq (.reg (s109n1 K)) (.cond (.t 11) (.skip) (.exit 0))) (.seq (.block 1 (.reg (s109n2 K))) (.reg (s109n3 K))))))
theorem ok109 (K : KTC) (K' : KT) (hK : CSound K K') : FitsC Tryz.prog K' (q109 K) r109.code := hs (p109n0 K _ hK) (hb (hl (by decide +kernel) (hs (hs (p109n1 K _ hK) (hc (hk) (hx))) (hs (hb (p109n2 K _ hK)) (p109n3 K _ hK)))))
noncomputable def g109 : HFn Tryz.prog := ⟨r109, q109, ok109⟩
theorem c109 : chkF Tryz.prog Tryz.f109 r109 = true := by decide +kernel

/-! doubletake/state.lay -/
def o110n0 : List RI := [⟨(some 3), none, (.al (.box (.t 1)))⟩]
noncomputable def b110n0 (K : KTC) (k : KS) (a1 a0 : AV) (c : KN) (p : KV) : Kr :=
  pAl (evAl [(1, a1)] k.nx (.box (.t 1))) k fun v0 k0 =>
  c [(0, a0), (3, v0)] k0
theorem e110n0 (K : KTC) (k : KS) (a1 a0 : AV) (c : KN) (p : KV) : b110n0 K k a1 a0 c p = wReg Tryz.prog K [0, 3] o110n0 [(1, a1), (0, a0)] k c p := by unfold b110n0; kernel_rfl
noncomputable def s110n0 (K : KTC) (e : Env) (k : KS) (c : KN) (p : KV) : Kr := gt e 1 fun a1 => gt e 0 fun a0 => b110n0 K k a1 a0 c p
theorem p110n0 (K : KTC) (K' : KT) (hK : CSound K K') : FitsC Tryz.prog K' (.reg (s110n0 K)) (.reg o110n0 [0, 3]) := fun e k c p y h => by
  obtain ⟨a1, h1, h⟩ := gt_some h
  obtain ⟨a0, h0, h⟩ := gt_some h
  exact wreg_fit hK (by decide +kernel) (keep_cons h1 (keep_cons h0 (keep_nil))) (e110n0 K k a1 a0 c p) h
def o110n1 : List RI := [⟨(some 6), none, (.q (.mov (.t 0)))⟩, ⟨(some 7), none, (.q (.fld 0 0 (.t 3)))⟩, ⟨(some 8), none, (.rd (.ld false 1 (.t 7)))⟩, ⟨(some 9), none, (.q (.conv 3 39 (.t 8)))⟩, ⟨(some 10), none, (.ac (.callf 109 [(.t 6), (.t 9), (.k (.int .i64 2))]))⟩]
noncomputable def b110n1 (K : KTC) (k : KS) (a0 a3 : AV) (c : KN) (p : KV) : Kr :=
  xFld 0 0 a3 fun v0 =>
  xLd k.t false 1 v0 fun v1 =>
  xConv 3 39 v1 fun v2 =>
  K 109 [a0, v2, (.sc (.int .i64 2))] k (fun v3 k3 =>
  c [(0, a0), (3, a3)] k3) (p)
theorem e110n1 (K : KTC) (k : KS) (a0 a3 : AV) (c : KN) (p : KV) : b110n1 K k a0 a3 c p = wReg Tryz.prog K [0, 3] o110n1 [(0, a0), (3, a3)] k c p := by unfold b110n1; simp only [xConv_eq, xLd_eq, xFld_eq]; kernel_rfl
noncomputable def s110n1 (K : KTC) (e : Env) (k : KS) (c : KN) (p : KV) : Kr := gt e 0 fun a0 => gt e 3 fun a3 => b110n1 K k a0 a3 c p
theorem p110n1 (K : KTC) (K' : KT) (hK : CSound K K') : FitsC Tryz.prog K' (.reg (s110n1 K)) (.reg o110n1 [0, 3]) := fun e k c p y h => by
  obtain ⟨a0, h0, h⟩ := gt_some h
  obtain ⟨a3, h3, h⟩ := gt_some h
  exact wreg_fit hK (by decide +kernel) (keep_cons h0 (keep_cons h3 (keep_nil))) (e110n1 K k a0 a3 c p) h
def o110n2 : List RI := [⟨(some 11), none, (.q (.fld 0 0 (.t 3)))⟩, ⟨(some 12), none, (.rd (.ld false 1 (.t 11)))⟩, ⟨(some 13), none, (.q (.bin .eql 3 (.t 12) (.k (.int .i64 0))))⟩]
noncomputable def b110n2 (K : KTC) (k : KS) (a3 a0 : AV) (c : KN) (p : KV) : Kr :=
  xFld 0 0 a3 fun v0 =>
  xLd k.t false 1 v0 fun v1 =>
  xEql 3 v1 (.sc (.int .i64 0)) fun v2 =>
  c [(0, a0), (3, a3), (13, v2)] k
theorem e110n2 (K : KTC) (k : KS) (a3 a0 : AV) (c : KN) (p : KV) : b110n2 K k a3 a0 c p = wReg Tryz.prog K [0, 3, 13] o110n2 [(3, a3), (0, a0)] k c p := by unfold b110n2; simp only [xEql_eq, xLd_eq, xFld_eq]; kernel_rfl
noncomputable def s110n2 (K : KTC) (e : Env) (k : KS) (c : KN) (p : KV) : Kr := gt e 3 fun a3 => gt e 0 fun a0 => b110n2 K k a3 a0 c p
theorem p110n2 (K : KTC) (K' : KT) (hK : CSound K K') : FitsC Tryz.prog K' (.reg (s110n2 K)) (.reg o110n2 [0, 3, 13]) := fun e k c p y h => by
  obtain ⟨a3, h3, h⟩ := gt_some h
  obtain ⟨a0, h0, h⟩ := gt_some h
  exact wreg_fit hK (by decide +kernel) (keep_cons h3 (keep_cons h0 (keep_nil))) (e110n2 K k a3 a0 c p) h
def o110n3 : List RI := [⟨(some 14), none, (.q (.mov (.t 0)))⟩, ⟨(some 15), none, (.q (.fld 1 1 (.t 3)))⟩, ⟨(some 16), none, (.rd (.ld false 1 (.t 15)))⟩, ⟨(some 17), none, (.q (.conv 3 39 (.t 16)))⟩, ⟨(some 18), none, (.ac (.callf 109 [(.t 14), (.t 17), (.k (.int .i64 3))]))⟩]
noncomputable def b110n3 (K : KTC) (k : KS) (a0 a3 : AV) (c : KN) (p : KV) : Kr :=
  xFld 1 1 a3 fun v0 =>
  xLd k.t false 1 v0 fun v1 =>
  xConv 3 39 v1 fun v2 =>
  K 109 [a0, v2, (.sc (.int .i64 3))] k (fun v3 k3 =>
  c [(0, a0), (3, a3)] k3) (p)
theorem e110n3 (K : KTC) (k : KS) (a0 a3 : AV) (c : KN) (p : KV) : b110n3 K k a0 a3 c p = wReg Tryz.prog K [0, 3] o110n3 [(0, a0), (3, a3)] k c p := by unfold b110n3; simp only [xConv_eq, xLd_eq, xFld_eq]; kernel_rfl
noncomputable def s110n3 (K : KTC) (e : Env) (k : KS) (c : KN) (p : KV) : Kr := gt e 0 fun a0 => gt e 3 fun a3 => b110n3 K k a0 a3 c p
theorem p110n3 (K : KTC) (K' : KT) (hK : CSound K K') : FitsC Tryz.prog K' (.reg (s110n3 K)) (.reg o110n3 [0, 3]) := fun e k c p y h => by
  obtain ⟨a0, h0, h⟩ := gt_some h
  obtain ⟨a3, h3, h⟩ := gt_some h
  exact wreg_fit hK (by decide +kernel) (keep_cons h0 (keep_cons h3 (keep_nil))) (e110n3 K k a0 a3 c p) h
def o110n4 : List RI := [⟨(some 19), none, (.q (.mov (.t 0)))⟩, ⟨(some 20), none, (.q (.fld 2 2 (.t 3)))⟩, ⟨(some 21), none, (.rd (.ld false 1 (.t 20)))⟩, ⟨(some 22), none, (.q (.conv 3 39 (.t 21)))⟩, ⟨(some 23), none, (.ac (.callf 109 [(.t 19), (.t 22), (.k (.int .i64 12))]))⟩]
noncomputable def b110n4 (K : KTC) (k : KS) (a0 a3 : AV) (c : KN) (p : KV) : Kr :=
  xFld 2 2 a3 fun v0 =>
  xLd k.t false 1 v0 fun v1 =>
  xConv 3 39 v1 fun v2 =>
  K 109 [a0, v2, (.sc (.int .i64 12))] k (fun v3 k3 =>
  c [(0, a0), (3, a3)] k3) (p)
theorem e110n4 (K : KTC) (k : KS) (a0 a3 : AV) (c : KN) (p : KV) : b110n4 K k a0 a3 c p = wReg Tryz.prog K [0, 3] o110n4 [(0, a0), (3, a3)] k c p := by unfold b110n4; simp only [xConv_eq, xLd_eq, xFld_eq]; kernel_rfl
noncomputable def s110n4 (K : KTC) (e : Env) (k : KS) (c : KN) (p : KV) : Kr := gt e 0 fun a0 => gt e 3 fun a3 => b110n4 K k a0 a3 c p
theorem p110n4 (K : KTC) (K' : KT) (hK : CSound K K') : FitsC Tryz.prog K' (.reg (s110n4 K)) (.reg o110n4 [0, 3]) := fun e k c p y h => by
  obtain ⟨a0, h0, h⟩ := gt_some h
  obtain ⟨a3, h3, h⟩ := gt_some h
  exact wreg_fit hK (by decide +kernel) (keep_cons h0 (keep_cons h3 (keep_nil))) (e110n4 K k a0 a3 c p) h
def o110n5 : List RI := [⟨(some 24), none, (.q (.mov (.t 0)))⟩, ⟨(some 25), none, (.q (.fld 3 3 (.t 3)))⟩, ⟨(some 26), none, (.rd (.ld false 1 (.t 25)))⟩, ⟨(some 27), none, (.q (.conv 3 39 (.t 26)))⟩, ⟨(some 28), none, (.ac (.callf 109 [(.t 24), (.t 27), (.k (.int .i64 12))]))⟩]
noncomputable def b110n5 (K : KTC) (k : KS) (a0 a3 : AV) (c : KN) (p : KV) : Kr :=
  xFld 3 3 a3 fun v0 =>
  xLd k.t false 1 v0 fun v1 =>
  xConv 3 39 v1 fun v2 =>
  K 109 [a0, v2, (.sc (.int .i64 12))] k (fun v3 k3 =>
  c [(0, a0), (3, a3)] k3) (p)
theorem e110n5 (K : KTC) (k : KS) (a0 a3 : AV) (c : KN) (p : KV) : b110n5 K k a0 a3 c p = wReg Tryz.prog K [0, 3] o110n5 [(0, a0), (3, a3)] k c p := by unfold b110n5; simp only [xConv_eq, xLd_eq, xFld_eq]; kernel_rfl
noncomputable def s110n5 (K : KTC) (e : Env) (k : KS) (c : KN) (p : KV) : Kr := gt e 0 fun a0 => gt e 3 fun a3 => b110n5 K k a0 a3 c p
theorem p110n5 (K : KTC) (K' : KT) (hK : CSound K K') : FitsC Tryz.prog K' (.reg (s110n5 K)) (.reg o110n5 [0, 3]) := fun e k c p y h => by
  obtain ⟨a0, h0, h⟩ := gt_some h
  obtain ⟨a3, h3, h⟩ := gt_some h
  exact wreg_fit hK (by decide +kernel) (keep_cons h0 (keep_cons h3 (keep_nil))) (e110n5 K k a0 a3 c p) h
def o110n6 : List RI := [⟨(some 29), none, (.q (.mov (.t 0)))⟩, ⟨(some 30), none, (.q (.fld 4 4 (.t 3)))⟩, ⟨(some 31), none, (.rd (.ld false 1 (.t 30)))⟩, ⟨(some 32), none, (.ac (.callf 163 [(.t 29), (.t 31), (.k (.int .i64 8))]))⟩]
noncomputable def b110n6 (K : KTC) (k : KS) (a0 a3 : AV) (c : KN) (p : KV) : Kr :=
  xFld 4 4 a3 fun v0 =>
  xLd k.t false 1 v0 fun v1 =>
  K 163 [a0, v1, (.sc (.int .i64 8))] k (fun v2 k2 =>
  c [(0, a0), (3, a3)] k2) (p)
theorem e110n6 (K : KTC) (k : KS) (a0 a3 : AV) (c : KN) (p : KV) : b110n6 K k a0 a3 c p = wReg Tryz.prog K [0, 3] o110n6 [(0, a0), (3, a3)] k c p := by unfold b110n6; simp only [xLd_eq, xFld_eq]; kernel_rfl
noncomputable def s110n6 (K : KTC) (e : Env) (k : KS) (c : KN) (p : KV) : Kr := gt e 0 fun a0 => gt e 3 fun a3 => b110n6 K k a0 a3 c p
theorem p110n6 (K : KTC) (K' : KT) (hK : CSound K K') : FitsC Tryz.prog K' (.reg (s110n6 K)) (.reg o110n6 [0, 3]) := fun e k c p y h => by
  obtain ⟨a0, h0, h⟩ := gt_some h
  obtain ⟨a3, h3, h⟩ := gt_some h
  exact wreg_fit hK (by decide +kernel) (keep_cons h0 (keep_cons h3 (keep_nil))) (e110n6 K k a0 a3 c p) h
def o110n7 : List RI := [⟨(some 33), none, (.q (.mov (.t 0)))⟩, ⟨(some 34), none, (.q (.fld 5 5 (.t 3)))⟩, ⟨(some 35), none, (.rd (.ld false 1 (.t 34)))⟩, ⟨(some 36), none, (.ac (.callf 163 [(.t 33), (.t 35), (.k (.int .i64 8))]))⟩]
noncomputable def b110n7 (K : KTC) (k : KS) (a0 a3 : AV) (c : KN) (p : KV) : Kr :=
  xFld 5 5 a3 fun v0 =>
  xLd k.t false 1 v0 fun v1 =>
  K 163 [a0, v1, (.sc (.int .i64 8))] k (fun v2 k2 =>
  c [(0, a0), (3, a3)] k2) (p)
theorem e110n7 (K : KTC) (k : KS) (a0 a3 : AV) (c : KN) (p : KV) : b110n7 K k a0 a3 c p = wReg Tryz.prog K [0, 3] o110n7 [(0, a0), (3, a3)] k c p := by unfold b110n7; simp only [xLd_eq, xFld_eq]; kernel_rfl
noncomputable def s110n7 (K : KTC) (e : Env) (k : KS) (c : KN) (p : KV) : Kr := gt e 0 fun a0 => gt e 3 fun a3 => b110n7 K k a0 a3 c p
theorem p110n7 (K : KTC) (K' : KT) (hK : CSound K K') : FitsC Tryz.prog K' (.reg (s110n7 K)) (.reg o110n7 [0, 3]) := fun e k c p y h => by
  obtain ⟨a0, h0, h⟩ := gt_some h
  obtain ⟨a3, h3, h⟩ := gt_some h
  exact wreg_fit hK (by decide +kernel) (keep_cons h0 (keep_cons h3 (keep_nil))) (e110n7 K k a0 a3 c p) h
def o110n8 : List RI := [⟨(some 37), none, (.q (.mov (.t 0)))⟩, ⟨(some 38), none, (.q (.fld 6 6 (.t 3)))⟩, ⟨(some 39), none, (.rd (.ld false 1 (.t 38)))⟩, ⟨(some 40), none, (.q (.conv 3 39 (.t 39)))⟩, ⟨(some 41), none, (.ac (.callf 109 [(.t 37), (.t 40), (.k (.int .i64 10))]))⟩]
noncomputable def b110n8 (K : KTC) (k : KS) (a0 a3 : AV) (c : KN) (p : KV) : Kr :=
  xFld 6 6 a3 fun v0 =>
  xLd k.t false 1 v0 fun v1 =>
  xConv 3 39 v1 fun v2 =>
  K 109 [a0, v2, (.sc (.int .i64 10))] k (fun v3 k3 =>
  c [(0, a0), (3, a3)] k3) (p)
theorem e110n8 (K : KTC) (k : KS) (a0 a3 : AV) (c : KN) (p : KV) : b110n8 K k a0 a3 c p = wReg Tryz.prog K [0, 3] o110n8 [(0, a0), (3, a3)] k c p := by unfold b110n8; simp only [xConv_eq, xLd_eq, xFld_eq]; kernel_rfl
noncomputable def s110n8 (K : KTC) (e : Env) (k : KS) (c : KN) (p : KV) : Kr := gt e 0 fun a0 => gt e 3 fun a3 => b110n8 K k a0 a3 c p
theorem p110n8 (K : KTC) (K' : KT) (hK : CSound K K') : FitsC Tryz.prog K' (.reg (s110n8 K)) (.reg o110n8 [0, 3]) := fun e k c p y h => by
  obtain ⟨a0, h0, h⟩ := gt_some h
  obtain ⟨a3, h3, h⟩ := gt_some h
  exact wreg_fit hK (by decide +kernel) (keep_cons h0 (keep_cons h3 (keep_nil))) (e110n8 K k a0 a3 c p) h
def o110n9 : List RI := [⟨(some 42), none, (.q (.fld 7 7 (.t 3)))⟩, ⟨(some 43), none, (.rd (.ld true 4 (.t 42)))⟩, ⟨(some 44), none, (.q (.mov (.k (.int .i64 0))))⟩]
noncomputable def b110n9 (K : KTC) (k : KS) (a3 a0 : AV) (c : KN) (p : KV) : Kr :=
  xFld 7 7 a3 fun v0 =>
  xLd k.t true 4 v0 fun v1 =>
  c [(0, a0), (3, a3), (43, v1), (44, (.sc (.int .i64 0)))] k
theorem e110n9 (K : KTC) (k : KS) (a3 a0 : AV) (c : KN) (p : KV) : b110n9 K k a3 a0 c p = wReg Tryz.prog K [0, 3, 43, 44] o110n9 [(3, a3), (0, a0)] k c p := by unfold b110n9; simp only [xLd_eq, xFld_eq]; kernel_rfl
noncomputable def s110n9 (K : KTC) (e : Env) (k : KS) (c : KN) (p : KV) : Kr := gt e 3 fun a3 => gt e 0 fun a0 => b110n9 K k a3 a0 c p
theorem p110n9 (K : KTC) (K' : KT) (hK : CSound K K') : FitsC Tryz.prog K' (.reg (s110n9 K)) (.reg o110n9 [0, 3, 43, 44]) := fun e k c p y h => by
  obtain ⟨a3, h3, h⟩ := gt_some h
  obtain ⟨a0, h0, h⟩ := gt_some h
  exact wreg_fit hK (by decide +kernel) (keep_cons h3 (keep_cons h0 (keep_nil))) (e110n9 K k a3 a0 c p) h
def o110n10 : List RI := [⟨(some 45), none, (.q (.bin .lss 3 (.t 44) (.k (.int .i64 4))))⟩]
noncomputable def b110n10 (K : KTC) (k : KS) (a44 a0 a3 a43 : AV) (c : KN) (p : KV) : Kr :=
  xLss 3 a44 (.sc (.int .i64 4)) fun v0 =>
  c [(0, a0), (3, a3), (43, a43), (44, a44), (45, v0)] k
theorem e110n10 (K : KTC) (k : KS) (a44 a0 a3 a43 : AV) (c : KN) (p : KV) : b110n10 K k a44 a0 a3 a43 c p = wReg Tryz.prog K [0, 3, 43, 44, 45] o110n10 [(44, a44), (0, a0), (3, a3), (43, a43)] k c p := by unfold b110n10; simp only [xLss_eq]; kernel_rfl
noncomputable def s110n10 (K : KTC) (e : Env) (k : KS) (c : KN) (p : KV) : Kr := gt e 44 fun a44 => gt e 0 fun a0 => gt e 3 fun a3 => gt e 43 fun a43 => b110n10 K k a44 a0 a3 a43 c p
theorem p110n10 (K : KTC) (K' : KT) (hK : CSound K K') : FitsC Tryz.prog K' (.reg (s110n10 K)) (.reg o110n10 [0, 3, 43, 44, 45]) := fun e k c p y h => by
  obtain ⟨a44, h44, h⟩ := gt_some h
  obtain ⟨a0, h0, h⟩ := gt_some h
  obtain ⟨a3, h3, h⟩ := gt_some h
  obtain ⟨a43, h43, h⟩ := gt_some h
  exact wreg_fit hK (by decide +kernel) (keep_cons h44 (keep_cons h0 (keep_cons h3 (keep_cons h43 (keep_nil))))) (e110n10 K k a44 a0 a3 a43 c p) h
def o110n11 : List RI := [⟨(some 46), none, (.q (.ixv 4 1 false (.t 43) (.t 44)))⟩, ⟨(some 5), none, (.q (.mov (.t 46)))⟩]
noncomputable def b110n11 (K : KTC) (k : KS) (a43 a44 a0 a3 : AV) (c : KN) (p : KV) : Kr :=
  (kQ Tryz.prog [(43, a43), (44, a44)] (.ixv 4 1 false (.t 43) (.t 44))).bind fun v0 =>
  c [(0, a0), (3, a3), (5, v0), (43, a43), (44, a44)] k
theorem e110n11 (K : KTC) (k : KS) (a43 a44 a0 a3 : AV) (c : KN) (p : KV) : b110n11 K k a43 a44 a0 a3 c p = wReg Tryz.prog K [0, 3, 5, 43, 44] o110n11 [(43, a43), (44, a44), (0, a0), (3, a3)] k c p := by unfold b110n11; kernel_rfl
noncomputable def s110n11 (K : KTC) (e : Env) (k : KS) (c : KN) (p : KV) : Kr := gt e 43 fun a43 => gt e 44 fun a44 => gt e 0 fun a0 => gt e 3 fun a3 => b110n11 K k a43 a44 a0 a3 c p
theorem p110n11 (K : KTC) (K' : KT) (hK : CSound K K') : FitsC Tryz.prog K' (.reg (s110n11 K)) (.reg o110n11 [0, 3, 5, 43, 44]) := fun e k c p y h => by
  obtain ⟨a43, h43, h⟩ := gt_some h
  obtain ⟨a44, h44, h⟩ := gt_some h
  obtain ⟨a0, h0, h⟩ := gt_some h
  obtain ⟨a3, h3, h⟩ := gt_some h
  exact wreg_fit hK (by decide +kernel) (keep_cons h43 (keep_cons h44 (keep_cons h0 (keep_cons h3 (keep_nil))))) (e110n11 K k a43 a44 a0 a3 c p) h
def o110n12 : List RI := [⟨(some 47), none, (.q (.mov (.t 0)))⟩, ⟨(some 48), none, (.q (.mov (.t 5)))⟩, ⟨(some 49), none, (.ac (.callf 163 [(.t 47), (.t 48), (.k (.int .i64 21))]))⟩]
noncomputable def b110n12 (K : KTC) (k : KS) (a0 a5 a3 a43 a44 : AV) (c : KN) (p : KV) : Kr :=
  K 163 [a0, a5, (.sc (.int .i64 21))] k (fun v0 k0 =>
  c [(0, a0), (3, a3), (43, a43), (44, a44)] k0) (p)
theorem e110n12 (K : KTC) (k : KS) (a0 a5 a3 a43 a44 : AV) (c : KN) (p : KV) : b110n12 K k a0 a5 a3 a43 a44 c p = wReg Tryz.prog K [0, 3, 43, 44] o110n12 [(0, a0), (5, a5), (3, a3), (43, a43), (44, a44)] k c p := by unfold b110n12; kernel_rfl
noncomputable def s110n12 (K : KTC) (e : Env) (k : KS) (c : KN) (p : KV) : Kr := gt e 0 fun a0 => gt e 5 fun a5 => gt e 3 fun a3 => gt e 43 fun a43 => gt e 44 fun a44 => b110n12 K k a0 a5 a3 a43 a44 c p
theorem p110n12 (K : KTC) (K' : KT) (hK : CSound K K') : FitsC Tryz.prog K' (.reg (s110n12 K)) (.reg o110n12 [0, 3, 43, 44]) := fun e k c p y h => by
  obtain ⟨a0, h0, h⟩ := gt_some h
  obtain ⟨a5, h5, h⟩ := gt_some h
  obtain ⟨a3, h3, h⟩ := gt_some h
  obtain ⟨a43, h43, h⟩ := gt_some h
  obtain ⟨a44, h44, h⟩ := gt_some h
  exact wreg_fit hK (by decide +kernel) (keep_cons h0 (keep_cons h5 (keep_cons h3 (keep_cons h43 (keep_cons h44 (keep_nil)))))) (e110n12 K k a0 a5 a3 a43 a44 c p) h
def o110n13 : List RI := [⟨(some 50), none, (.q (.bin .add 3 (.t 44) (.k (.int .i64 1))))⟩, ⟨(some 44), none, (.q (.mov (.t 50)))⟩]
noncomputable def b110n13 (K : KTC) (k : KS) (a44 a0 a3 a43 : AV) (c : KN) (p : KV) : Kr :=
  xAdd 3 a44 (.sc (.int .i64 1)) fun v0 =>
  c [(0, a0), (3, a3), (43, a43), (44, v0)] k
theorem e110n13 (K : KTC) (k : KS) (a44 a0 a3 a43 : AV) (c : KN) (p : KV) : b110n13 K k a44 a0 a3 a43 c p = wReg Tryz.prog K [0, 3, 43, 44] o110n13 [(44, a44), (0, a0), (3, a3), (43, a43)] k c p := by unfold b110n13; simp only [xAdd_eq]; kernel_rfl
noncomputable def s110n13 (K : KTC) (e : Env) (k : KS) (c : KN) (p : KV) : Kr := gt e 44 fun a44 => gt e 0 fun a0 => gt e 3 fun a3 => gt e 43 fun a43 => b110n13 K k a44 a0 a3 a43 c p
theorem p110n13 (K : KTC) (K' : KT) (hK : CSound K K') : FitsC Tryz.prog K' (.reg (s110n13 K)) (.reg o110n13 [0, 3, 43, 44]) := fun e k c p y h => by
  obtain ⟨a44, h44, h⟩ := gt_some h
  obtain ⟨a0, h0, h⟩ := gt_some h
  obtain ⟨a3, h3, h⟩ := gt_some h
  obtain ⟨a43, h43, h⟩ := gt_some h
  exact wreg_fit hK (by decide +kernel) (keep_cons h44 (keep_cons h0 (keep_cons h3 (keep_cons h43 (keep_nil))))) (e110n13 K k a44 a0 a3 a43 c p) h
def o110n14 : List RI := [⟨(some 51), none, (.q (.mov (.t 0)))⟩, ⟨(some 52), none, (.q (.fld 8 11 (.t 3)))⟩, ⟨(some 53), none, (.rd (.ld false 1 (.t 52)))⟩, ⟨(some 54), none, (.q (.conv 3 39 (.t 53)))⟩, ⟨(some 55), none, (.ac (.callf 109 [(.t 51), (.t 54), (.k (.int .i64 16))]))⟩]
noncomputable def b110n14 (K : KTC) (k : KS) (a0 a3 : AV) (c : KN) (p : KV) : Kr :=
  xFld 8 11 a3 fun v0 =>
  xLd k.t false 1 v0 fun v1 =>
  xConv 3 39 v1 fun v2 =>
  K 109 [a0, v2, (.sc (.int .i64 16))] k (fun v3 k3 =>
  c [(3, a3)] k3) (p)
theorem e110n14 (K : KTC) (k : KS) (a0 a3 : AV) (c : KN) (p : KV) : b110n14 K k a0 a3 c p = wReg Tryz.prog K [3] o110n14 [(0, a0), (3, a3)] k c p := by unfold b110n14; simp only [xConv_eq, xLd_eq, xFld_eq]; kernel_rfl
noncomputable def s110n14 (K : KTC) (e : Env) (k : KS) (c : KN) (p : KV) : Kr := gt e 0 fun a0 => gt e 3 fun a3 => b110n14 K k a0 a3 c p
theorem p110n14 (K : KTC) (K' : KT) (hK : CSound K K') : FitsC Tryz.prog K' (.reg (s110n14 K)) (.reg o110n14 [3]) := fun e k c p y h => by
  obtain ⟨a0, h0, h⟩ := gt_some h
  obtain ⟨a3, h3, h⟩ := gt_some h
  exact wreg_fit hK (by decide +kernel) (keep_cons h0 (keep_cons h3 (keep_nil))) (e110n14 K k a0 a3 c p) h
def r110 : RFn := ⟨2, .seq (.reg o110n0 [0, 3]) (.seq (.reg o110n1 [0, 3]) (.seq (.seq (.reg o110n2 [0, 3, 13]) (.cond (.t 13) (.ret) (.skip))) (.seq (.reg o110n3 [0, 3]) (.seq (.reg o110n4 [0, 3]) (.seq (.reg o110n5 [0, 3]) (.seq (.reg o110n6 [0, 3]) (.seq (.reg o110n7 [0, 3]) (.seq (.reg o110n8 [0, 3]) (.seq (.seq (.reg o110n9 [0, 3, 43, 44]) (.block 0 (.loop [0, 3, 43, 44] (.seq (.reg o110n10 [0, 3, 43, 44, 45]) (.seq (.cond (.t 45) (.skip) (.exit 0)) (.seq (.block 1 (.seq (.reg o110n11 [0, 3, 5, 43, 44]) (.reg o110n12 [0, 3, 43, 44]))) (.reg o110n13 [0, 3, 43, 44]))))))) (.reg o110n14 [3])))))))))), [], [3]⟩
noncomputable def q110 (K : KTC) : FK := .seq (.reg (s110n0 K)) (.seq (.reg (s110n1 K)) (.seq (.seq (.reg (s110n2 K)) (.cond (.t 13) (.ret) (.skip))) (.seq (.reg (s110n3 K)) (.seq (.reg (s110n4 K)) (.seq (.reg (s110n5 K)) (.seq (.reg (s110n6 K)) (.seq (.reg (s110n7 K)) (.seq (.reg (s110n8 K)) (.seq (.seq (.reg (s110n9 K)) (.block 0 (.loop [0, 3, 43, 44] (.seq (.reg (s110n10 K)) (.seq (.cond (.t 45) (.skip) (.exit 0)) (.seq (.block 1 (.seq (.reg (s110n11 K)) (.reg (s110n12 K)))) (.reg (s110n13 K)))))))) (.reg (s110n14 K)))))))))))
theorem ok110 (K : KTC) (K' : KT) (hK : CSound K K') : FitsC Tryz.prog K' (q110 K) r110.code := hs (p110n0 K _ hK) (hs (p110n1 K _ hK) (hs (hs (p110n2 K _ hK) (hc (hr) (hk))) (hs (p110n3 K _ hK) (hs (p110n4 K _ hK) (hs (p110n5 K _ hK) (hs (p110n6 K _ hK) (hs (p110n7 K _ hK) (hs (p110n8 K _ hK) (hs (hs (p110n9 K _ hK) (hb (hl (by decide +kernel) (hs (p110n10 K _ hK) (hs (hc (hk) (hx)) (hs (hb (hs (p110n11 K _ hK) (p110n12 K _ hK))) (p110n13 K _ hK))))))) (p110n14 K _ hK))))))))))
noncomputable def g110 : HFn Tryz.prog := ⟨r110, q110, ok110⟩
theorem c110 : chkF Tryz.prog Tryz.f110 r110 = true := by decide +kernel

/-- (*doubletake/bits.Writer).Bytes -/
def r111 : RFn := ⟨1,
  .seq (
  .reg [⟨(some 2), none, (.q (.mov .nils))⟩] [0]) (
  .seq (
  .reg [⟨(some 3), none, (.q (.mov (.t 0)))⟩,
    ⟨(some 4), none, (.q (.nchk (.t 3)))⟩,
    ⟨(some 5), none, (.q (.fld 0 0 (.t 4)))⟩,
    ⟨(some 6), none, (.rd (.ld false 1 (.t 5)))⟩,
    ⟨(some 7), none, (.ac (.callf 154 [(.t 6)]))⟩,
    ⟨(some 2), none, (.q (.mov (.t 7)))⟩] [2]) (
  .ret)),
  [.tmp 2], []⟩
noncomputable def g111 : HFn Tryz.prog := ⟨r111, fun K => wslow Tryz.prog K r111.code, fun _ _ hK => wslow_fits hK _ (by decide +kernel)⟩
theorem c111 : chkF Tryz.prog Tryz.f111 r111 = true := by decide +kernel

/-! doubletake/tag.Sum -/
def o112n0 : List RI := [⟨(some 4), none, (.q (.mov (.k (.int .i64 0))))⟩]
noncomputable def b112n0 (K : KTC) (k : KS) (a0 a1 : AV) (c : KN) (p : KV) : Kr :=
  c [(0, a0), (1, a1)] k
theorem e112n0 (K : KTC) (k : KS) (a0 a1 : AV) (c : KN) (p : KV) : b112n0 K k a0 a1 c p = wReg Tryz.prog K [0, 1] o112n0 [(0, a0), (1, a1)] k c p := by unfold b112n0; kernel_rfl
noncomputable def s112n0 (K : KTC) (e : Env) (k : KS) (c : KN) (p : KV) : Kr := gt e 0 fun a0 => gt e 1 fun a1 => b112n0 K k a0 a1 c p
theorem p112n0 (K : KTC) (K' : KT) (hK : CSound K K') : FitsC Tryz.prog K' (.reg (s112n0 K)) (.reg o112n0 [0, 1]) := fun e k c p y h => by
  obtain ⟨a0, h0, h⟩ := gt_some h
  obtain ⟨a1, h1, h⟩ := gt_some h
  exact wreg_fit hK (by decide +kernel) (keep_cons h0 (keep_cons h1 (keep_nil))) (e112n0 K k a0 a1 c p) h
def o112n1 : List RI := [⟨(some 8), none, (.q (.mov (.t 0)))⟩, ⟨(some 9), none, (.q (.bin .rem 3 (.t 8) (.k (.int .i64 2147483647))))⟩, ⟨(some 10), none, (.q (.bin .add 3 (.t 9) (.k (.int .i64 2147483647))))⟩, ⟨(some 11), none, (.q (.bin .rem 3 (.t 10) (.k (.int .i64 2147483647))))⟩, ⟨(some 12), none, (.q (.bin .add 3 (.t 11) (.k (.int .i64 1))))⟩, ⟨(some 5), none, (.q (.mov (.t 12)))⟩]
noncomputable def b112n1 (K : KTC) (k : KS) (a0 a1 : AV) (c : KN) (p : KV) : Kr :=
  xRem 3 a0 (.sc (.int .i64 2147483647)) fun v0 =>
  xAdd 3 v0 (.sc (.int .i64 2147483647)) fun v1 =>
  xRem 3 v1 (.sc (.int .i64 2147483647)) fun v2 =>
  xAdd 3 v2 (.sc (.int .i64 1)) fun v3 =>
  c [(1, a1), (5, v3)] k
theorem e112n1 (K : KTC) (k : KS) (a0 a1 : AV) (c : KN) (p : KV) : b112n1 K k a0 a1 c p = wReg Tryz.prog K [1, 5] o112n1 [(0, a0), (1, a1)] k c p := by unfold b112n1; simp only [xAdd_eq, xRem_eq]; kernel_rfl
noncomputable def s112n1 (K : KTC) (e : Env) (k : KS) (c : KN) (p : KV) : Kr := gt e 0 fun a0 => gt e 1 fun a1 => b112n1 K k a0 a1 c p
theorem p112n1 (K : KTC) (K' : KT) (hK : CSound K K') : FitsC Tryz.prog K' (.reg (s112n1 K)) (.reg o112n1 [1, 5]) := fun e k c p y h => by
  obtain ⟨a0, h0, h⟩ := gt_some h
  obtain ⟨a1, h1, h⟩ := gt_some h
  exact wreg_fit hK (by decide +kernel) (keep_cons h0 (keep_cons h1 (keep_nil))) (e112n1 K k a0 a1 c p) h
def o112n2 : List RI := [⟨(some 13), none, (.q (.mov (.t 1)))⟩, ⟨(some 14), none, (.q (.len false (.t 13)))⟩, ⟨(some 15), none, (.q (.mov (.k (.int .i64 0))))⟩]
noncomputable def b112n2 (K : KTC) (k : KS) (a1 a5 : AV) (c : KN) (p : KV) : Kr :=
  xLen a1 fun v0 =>
  c [(1, a1), (5, a5), (13, a1), (14, v0), (15, (.sc (.int .i64 0)))] k
theorem e112n2 (K : KTC) (k : KS) (a1 a5 : AV) (c : KN) (p : KV) : b112n2 K k a1 a5 c p = wReg Tryz.prog K [1, 5, 13, 14, 15] o112n2 [(1, a1), (5, a5)] k c p := by unfold b112n2; simp only [xLen_eq]; kernel_rfl
noncomputable def s112n2 (K : KTC) (e : Env) (k : KS) (c : KN) (p : KV) : Kr := gt e 1 fun a1 => gt e 5 fun a5 => b112n2 K k a1 a5 c p
theorem p112n2 (K : KTC) (K' : KT) (hK : CSound K K') : FitsC Tryz.prog K' (.reg (s112n2 K)) (.reg o112n2 [1, 5, 13, 14, 15]) := fun e k c p y h => by
  obtain ⟨a1, h1, h⟩ := gt_some h
  obtain ⟨a5, h5, h⟩ := gt_some h
  exact wreg_fit hK (by decide +kernel) (keep_cons h1 (keep_cons h5 (keep_nil))) (e112n2 K k a1 a5 c p) h
def o112n3 : List RI := [⟨(some 16), none, (.q (.bin .lss 3 (.t 15) (.t 14)))⟩]
noncomputable def b112n3 (K : KTC) (k : KS) (a15 a14 a1 a5 a13 : AV) (c : KN) (p : KV) : Kr :=
  xLss 3 a15 a14 fun v0 =>
  c [(1, a1), (5, a5), (13, a13), (14, a14), (15, a15), (16, v0)] k
theorem e112n3 (K : KTC) (k : KS) (a15 a14 a1 a5 a13 : AV) (c : KN) (p : KV) : b112n3 K k a15 a14 a1 a5 a13 c p = wReg Tryz.prog K [1, 5, 13, 14, 15, 16] o112n3 [(15, a15), (14, a14), (1, a1), (5, a5), (13, a13)] k c p := by unfold b112n3; simp only [xLss_eq]; kernel_rfl
noncomputable def s112n3 (K : KTC) (e : Env) (k : KS) (c : KN) (p : KV) : Kr := gt e 15 fun a15 => gt e 14 fun a14 => gt e 1 fun a1 => gt e 5 fun a5 => gt e 13 fun a13 => b112n3 K k a15 a14 a1 a5 a13 c p
theorem p112n3 (K : KTC) (K' : KT) (hK : CSound K K') : FitsC Tryz.prog K' (.reg (s112n3 K)) (.reg o112n3 [1, 5, 13, 14, 15, 16]) := fun e k c p y h => by
  obtain ⟨a15, h15, h⟩ := gt_some h
  obtain ⟨a14, h14, h⟩ := gt_some h
  obtain ⟨a1, h1, h⟩ := gt_some h
  obtain ⟨a5, h5, h⟩ := gt_some h
  obtain ⟨a13, h13, h⟩ := gt_some h
  exact wreg_fit hK (by decide +kernel) (keep_cons h15 (keep_cons h14 (keep_cons h1 (keep_cons h5 (keep_cons h13 (keep_nil)))))) (e112n3 K k a15 a14 a1 a5 a13 c p) h
def o112n4 : List RI := [⟨(some 17), none, (.q (.ixs 1 (.t 13) (.t 15)))⟩, ⟨(some 18), none, (.rd (.ld false 1 (.t 17)))⟩, ⟨(some 7), none, (.q (.mov (.t 18)))⟩]
noncomputable def b112n4 (K : KTC) (k : KS) (a13 a15 a1 a5 a14 : AV) (c : KN) (p : KV) : Kr :=
  xIxl k.t 1 false 1 a13 a15 fun v0 =>
  c [(1, a1), (5, a5), (7, v0), (13, a13), (14, a14), (15, a15)] k
theorem e112n4 (K : KTC) (k : KS) (a13 a15 a1 a5 a14 : AV) (c : KN) (p : KV) : b112n4 K k a13 a15 a1 a5 a14 c p = wReg Tryz.prog K [1, 5, 7, 13, 14, 15] o112n4 [(13, a13), (15, a15), (1, a1), (5, a5), (14, a14)] k c p := by unfold b112n4; simp only [xIxl_eq]; kernel_rfl
noncomputable def s112n4 (K : KTC) (e : Env) (k : KS) (c : KN) (p : KV) : Kr := gt e 13 fun a13 => gt e 15 fun a15 => gt e 1 fun a1 => gt e 5 fun a5 => gt e 14 fun a14 => b112n4 K k a13 a15 a1 a5 a14 c p
theorem p112n4 (K : KTC) (K' : KT) (hK : CSound K K') : FitsC Tryz.prog K' (.reg (s112n4 K)) (.reg o112n4 [1, 5, 7, 13, 14, 15]) := fun e k c p y h => by
  obtain ⟨a13, h13, h⟩ := gt_some h
  obtain ⟨a15, h15, h⟩ := gt_some h
  obtain ⟨a1, h1, h⟩ := gt_some h
  obtain ⟨a5, h5, h⟩ := gt_some h
  obtain ⟨a14, h14, h⟩ := gt_some h
  exact wreg_fit hK (by decide +kernel) (keep_cons h13 (keep_cons h15 (keep_cons h1 (keep_cons h5 (keep_cons h14 (keep_nil)))))) (e112n4 K k a13 a15 a1 a5 a14 c p) h
def o112n5 : List RI := [⟨(some 19), none, (.q (.mov (.t 5)))⟩, ⟨(some 20), none, (.q (.bin .mul 3 (.t 19) (.k (.int .i64 257))))⟩, ⟨(some 21), none, (.q (.mov (.t 7)))⟩, ⟨(some 22), none, (.q (.conv 5 3 (.t 21)))⟩, ⟨(some 23), none, (.q (.bin .add 3 (.t 20) (.t 22)))⟩, ⟨(some 24), none, (.q (.bin .add 3 (.t 23) (.k (.int .i64 1))))⟩, ⟨(some 25), none, (.q (.bin .rem 3 (.t 24) (.k (.int .i64 2147483647))))⟩, ⟨(some 5), none, (.q (.mov (.t 25)))⟩]
noncomputable def b112n5 (K : KTC) (k : KS) (a5 a7 a1 a13 a14 a15 : AV) (c : KN) (p : KV) : Kr :=
  xMul 3 a5 (.sc (.int .i64 257)) fun v0 =>
  xConv 5 3 a7 fun v1 =>
  xAdd 3 v0 v1 fun v2 =>
  xAdd 3 v2 (.sc (.int .i64 1)) fun v3 =>
  xRem 3 v3 (.sc (.int .i64 2147483647)) fun v4 =>
  c [(1, a1), (5, v4), (13, a13), (14, a14), (15, a15)] k
theorem e112n5 (K : KTC) (k : KS) (a5 a7 a1 a13 a14 a15 : AV) (c : KN) (p : KV) : b112n5 K k a5 a7 a1 a13 a14 a15 c p = wReg Tryz.prog K [1, 5, 13, 14, 15] o112n5 [(5, a5), (7, a7), (1, a1), (13, a13), (14, a14), (15, a15)] k c p := by unfold b112n5; simp only [xRem_eq, xAdd_eq, xConv_eq, xMul_eq]; kernel_rfl
noncomputable def s112n5 (K : KTC) (e : Env) (k : KS) (c : KN) (p : KV) : Kr := gt e 5 fun a5 => gt e 7 fun a7 => gt e 1 fun a1 => gt e 13 fun a13 => gt e 14 fun a14 => gt e 15 fun a15 => b112n5 K k a5 a7 a1 a13 a14 a15 c p
theorem p112n5 (K : KTC) (K' : KT) (hK : CSound K K') : FitsC Tryz.prog K' (.reg (s112n5 K)) (.reg o112n5 [1, 5, 13, 14, 15]) := fun e k c p y h => by
  obtain ⟨a5, h5, h⟩ := gt_some h
  obtain ⟨a7, h7, h⟩ := gt_some h
  obtain ⟨a1, h1, h⟩ := gt_some h
  obtain ⟨a13, h13, h⟩ := gt_some h
  obtain ⟨a14, h14, h⟩ := gt_some h
  obtain ⟨a15, h15, h⟩ := gt_some h
  exact wreg_fit hK (by decide +kernel) (keep_cons h5 (keep_cons h7 (keep_cons h1 (keep_cons h13 (keep_cons h14 (keep_cons h15 (keep_nil))))))) (e112n5 K k a5 a7 a1 a13 a14 a15 c p) h
def o112n6 : List RI := [⟨(some 26), none, (.q (.bin .add 3 (.t 15) (.k (.int .i64 1))))⟩, ⟨(some 15), none, (.q (.mov (.t 26)))⟩]
noncomputable def b112n6 (K : KTC) (k : KS) (a15 a1 a5 a13 a14 : AV) (c : KN) (p : KV) : Kr :=
  xAdd 3 a15 (.sc (.int .i64 1)) fun v0 =>
  c [(1, a1), (5, a5), (13, a13), (14, a14), (15, v0)] k
theorem e112n6 (K : KTC) (k : KS) (a15 a1 a5 a13 a14 : AV) (c : KN) (p : KV) : b112n6 K k a15 a1 a5 a13 a14 c p = wReg Tryz.prog K [1, 5, 13, 14, 15] o112n6 [(15, a15), (1, a1), (5, a5), (13, a13), (14, a14)] k c p := by unfold b112n6; simp only [xAdd_eq]; kernel_rfl
noncomputable def s112n6 (K : KTC) (e : Env) (k : KS) (c : KN) (p : KV) : Kr := gt e 15 fun a15 => gt e 1 fun a1 => gt e 5 fun a5 => gt e 13 fun a13 => gt e 14 fun a14 => b112n6 K k a15 a1 a5 a13 a14 c p
theorem p112n6 (K : KTC) (K' : KT) (hK : CSound K K') : FitsC Tryz.prog K' (.reg (s112n6 K)) (.reg o112n6 [1, 5, 13, 14, 15]) := fun e k c p y h => by
  obtain ⟨a15, h15, h⟩ := gt_some h
  obtain ⟨a1, h1, h⟩ := gt_some h
  obtain ⟨a5, h5, h⟩ := gt_some h
  obtain ⟨a13, h13, h⟩ := gt_some h
  obtain ⟨a14, h14, h⟩ := gt_some h
  exact wreg_fit hK (by decide +kernel) (keep_cons h15 (keep_cons h1 (keep_cons h5 (keep_cons h13 (keep_cons h14 (keep_nil)))))) (e112n6 K k a15 a1 a5 a13 a14 c p) h
def o112n7 : List RI := [⟨(some 27), none, (.q (.mov (.t 5)))⟩, ⟨(some 28), none, (.q (.mov (.t 1)))⟩, ⟨(some 29), none, (.q (.len false (.t 28)))⟩, ⟨(some 30), none, (.q (.bin .add 3 (.t 27) (.t 29)))⟩, ⟨(some 31), none, (.q (.bin .rem 3 (.t 30) (.k (.int .i64 2147483647))))⟩, ⟨(some 4), none, (.q (.mov (.t 31)))⟩]
noncomputable def b112n7 (K : KTC) (k : KS) (a5 a1 : AV) (c : KN) (p : KV) : Kr :=
  xLen a1 fun v0 =>
  xAdd 3 a5 v0 fun v1 =>
  xRem 3 v1 (.sc (.int .i64 2147483647)) fun v2 =>
  c [(4, v2)] k
theorem e112n7 (K : KTC) (k : KS) (a5 a1 : AV) (c : KN) (p : KV) : b112n7 K k a5 a1 c p = wReg Tryz.prog K [4] o112n7 [(5, a5), (1, a1)] k c p := by unfold b112n7; simp only [xRem_eq, xAdd_eq, xLen_eq]; kernel_rfl
noncomputable def s112n7 (K : KTC) (e : Env) (k : KS) (c : KN) (p : KV) : Kr := gt e 5 fun a5 => gt e 1 fun a1 => b112n7 K k a5 a1 c p
theorem p112n7 (K : KTC) (K' : KT) (hK : CSound K K') : FitsC Tryz.prog K' (.reg (s112n7 K)) (.reg o112n7 [4]) := fun e k c p y h => by
  obtain ⟨a5, h5, h⟩ := gt_some h
  obtain ⟨a1, h1, h⟩ := gt_some h
  exact wreg_fit hK (by decide +kernel) (keep_cons h5 (keep_cons h1 (keep_nil))) (e112n7 K k a5 a1 c p) h
def r112 : RFn := ⟨2, .seq (.reg o112n0 [0, 1]) (.seq (.reg o112n1 [1, 5]) (.seq (.seq (.reg o112n2 [1, 5, 13, 14, 15]) (.block 0 (.loop [1, 5, 13, 14, 15] (.seq (.reg o112n3 [1, 5, 13, 14, 15, 16]) (.seq (.cond (.t 16) (.skip) (.exit 0)) (.seq (.block 1 (.seq (.reg o112n4 [1, 5, 7, 13, 14, 15]) (.reg o112n5 [1, 5, 13, 14, 15]))) (.reg o112n6 [1, 5, 13, 14, 15]))))))) (.seq (.reg o112n7 [4]) (.ret)))), [.tmp 4], []⟩
noncomputable def q112 (K : KTC) : FK := .seq (.reg (s112n0 K)) (.seq (.reg (s112n1 K)) (.seq (.seq (.reg (s112n2 K)) (.block 0 (.loop [1, 5, 13, 14, 15] (.seq (.reg (s112n3 K)) (.seq (.cond (.t 16) (.skip) (.exit 0)) (.seq (.block 1 (.seq (.reg (s112n4 K)) (.reg (s112n5 K)))) (.reg (s112n6 K)))))))) (.seq (.reg (s112n7 K)) (.ret))))
theorem ok112 (K : KTC) (K' : KT) (hK : CSound K K') : FitsC Tryz.prog K' (q112 K) r112.code := hs (p112n0 K _ hK) (hs (p112n1 K _ hK) (hs (hs (p112n2 K _ hK) (hb (hl (by decide +kernel) (hs (p112n3 K _ hK) (hs (hc (hk) (hx)) (hs (hb (hs (p112n4 K _ hK) (p112n5 K _ hK))) (p112n6 K _ hK))))))) (hs (p112n7 K _ hK) (hr))))
noncomputable def g112 : HFn Tryz.prog := ⟨r112, q112, ok112⟩
theorem c112 : chkF Tryz.prog Tryz.f112 r112 = true := by decide +kernel

/-- (*doubletake/gate.Gate).open -/
def r113 : RFn := ⟨2,
  .seq (
  .reg [⟨(some 4), none, (.al (.alloc (.agg [1, 1, 1, 1, 1, 1, 1, 1, 1, 1, 1, 1, 1] [(.sc (.int .i64 0)), (.sc (.int .i64 0)), (.sc (.int .i64 0)), (.sc (.int .i64 0)), (.sc (.bool false)), (.sc (.int .u64 0)), (.sc (.int .i64 0)), (.sc (.int .i64 0)), (.slice none 0), (.sc (.int .i64 0)), (.slice none 0), (.sc (.int .i64 0)), (.sc (.int .i64 0))])))⟩,
    ⟨(some 5), none, (.q (.mov .nilp))⟩,
    ⟨(some 6), none, (.q (.mov (.k (.int .i64 0))))⟩] [0, 1, 4, 10]) (
  .seq (
  .seq (
  .reg [⟨(some 12), none, (.q (.mov (.t 1)))⟩,
    ⟨(some 13), none, (.q (.len false (.t 12)))⟩,
    ⟨(some 14), none, (.q (.bin .gtr 3 (.t 13) (.k (.int .i64 400))))⟩] [0, 1, 4, 10, 14]) (
  .cond (.t 14) (
   .seq (
   .reg [⟨(some 15), none, (.q (.bld (.agg [1, 1, 1, 1, 1, 1, 1, 1, 1, 1, 1, 1, 1] [(.sc (.int .i64 0)), (.sc (.int .i64 0)), (.sc (.int .i64 0)), (.sc (.int .i64 0)), (.sc (.bool false)), (.sc (.int .u64 0)), (.sc (.int .i64 0)), (.sc (.int .i64 0)), (.slice none 0), (.sc (.int .i64 0)), (.slice none 0), (.sc (.int .i64 0)), (.sc (.int .i64 0))]) []))⟩,
     ⟨none, none, (.ac (.st 13 (.t 4) (.t 15)))⟩,
     ⟨(some 5), none, (.q (.mov .nilp))⟩,
     ⟨(some 6), none, (.q (.mov (.k (.int .i64 1))))⟩] [4, 5, 6, 10]) (
   .ret)) (
   .skip))) (
  .seq (
  .reg [⟨(some 17), none, (.q (.mov (.t 1)))⟩,
    ⟨(some 18), none, (.ac (.callf 164 [(.t 17)]))⟩,
    ⟨(some 16), none, (.q (.mov (.t 18)))⟩,
    ⟨(some 19), none, (.q (.ext 0 (.t 16)))⟩,
    ⟨(some 20), none, (.q (.ext 1 (.t 16)))⟩,
    ⟨(some 7), none, (.q (.mov (.t 19)))⟩,
    ⟨(some 8), none, (.q (.mov (.t 20)))⟩] [0, 1, 4, 7, 8, 10]) (
  .seq (
  .reg [⟨(some 21), none, (.q (.mov (.t 0)))⟩,
    ⟨(some 22), none, (.q (.mov (.t 7)))⟩,
    ⟨(some 23), none, (.ac (.callf 75 [(.t 21), (.t 22)]))⟩,
    ⟨(some 9), none, (.q (.mov (.t 23)))⟩] [1, 4, 7, 8, 9, 10]) (
  .seq (
  .seq (
  .reg [⟨(some 24), none, (.q (.mov (.t 8)))⟩,
    ⟨(some 25), none, (.q (.un .not (.t 24)))⟩,
    ⟨(some 26), none, (.q (.mov (.t 25)))⟩,
    ⟨(some 27), (some (26, false)), (.q (.mov (.t 9)))⟩,
    ⟨(some 28), (some (26, false)), (.q (.nil 0 false (.t 27)))⟩,
    ⟨(some 29), none, (.q (.pick (.t 26) (.k (.bool true)) (.t 28)))⟩] [1, 4, 7, 9, 10, 29]) (
  .cond (.t 29) (
   .seq (
   .reg [⟨(some 30), none, (.q (.bld (.agg [1, 1, 1, 1, 1, 1, 1, 1, 1, 1, 1, 1, 1] [(.sc (.int .i64 0)), (.sc (.int .i64 0)), (.sc (.int .i64 0)), (.sc (.int .i64 0)), (.sc (.bool false)), (.sc (.int .u64 0)), (.sc (.int .i64 0)), (.sc (.int .i64 0)), (.slice none 0), (.sc (.int .i64 0)), (.slice none 0), (.sc (.int .i64 0)), (.sc (.int .i64 0))]) []))⟩,
     ⟨none, none, (.ac (.st 13 (.t 4) (.t 30)))⟩,
     ⟨(some 5), none, (.q (.mov .nilp))⟩,
     ⟨(some 6), none, (.q (.mov (.k (.int .i64 2))))⟩] [4, 5, 6, 10]) (
   .ret)) (
   .skip))) (
  .seq (
  .reg [⟨(some 32), none, (.q (.mov (.t 9)))⟩,
    ⟨(some 33), none, (.q (.nchk (.t 32)))⟩,
    ⟨(some 34), none, (.q (.fld 0 0 (.t 33)))⟩,
    ⟨(some 35), none, (.rd (.ld false 1 (.t 34)))⟩,
    ⟨(some 36), none, (.q (.mov (.t 1)))⟩,
    ⟨(some 37), none, (.ac (.callf 165 [(.t 35), (.t 36)]))⟩,
    ⟨(some 31), none, (.q (.mov (.t 37)))⟩,
    ⟨(some 38), none, (.q (.ext 0 (.t 31)))⟩,
    ⟨(some 39), none, (.q (.ext 1 (.t 31)))⟩,
    ⟨(some 10), none, (.al (.alloc (.agg [1, 1, 1, 1, 1, 1, 1, 1, 1, 1, 1, 1, 1] [(.sc (.int .i64 0)), (.sc (.int .i64 0)), (.sc (.int .i64 0)), (.sc (.int .i64 0)), (.sc (.bool false)), (.sc (.int .u64 0)), (.sc (.int .i64 0)), (.sc (.int .i64 0)), (.slice none 0), (.sc (.int .i64 0)), (.slice none 0), (.sc (.int .i64 0)), (.sc (.int .i64 0))])))⟩,
    ⟨none, none, (.ac (.st 13 (.t 10) (.t 38)))⟩,
    ⟨(some 11), none, (.q (.mov (.t 39)))⟩] [4, 7, 9, 10, 11]) (
  .seq (
  .block 0 (
   .seq (
   .reg [⟨(some 41), none, (.q (.mov (.t 11)))⟩,
     ⟨(some 42), none, (.q (.bin .eql 23 (.t 41) (.k (.int .i64 3))))⟩,
     ⟨(some 40), none, (.q (.mov (.t 42)))⟩] [4, 7, 9, 10, 11, 40]) (
   .cond (.t 40) (
    .seq (
    .reg [⟨(some 43), none, (.q (.bld (.agg [1, 1, 1, 1, 1, 1, 1, 1, 1, 1, 1, 1, 1] [(.sc (.int .i64 0)), (.sc (.int .i64 0)), (.sc (.int .i64 0)), (.sc (.int .i64 0)), (.sc (.bool false)), (.sc (.int .u64 0)), (.sc (.int .i64 0)), (.sc (.int .i64 0)), (.slice none 0), (.sc (.int .i64 0)), (.slice none 0), (.sc (.int .i64 0)), (.sc (.int .i64 0))]) []))⟩,
      ⟨none, none, (.ac (.st 13 (.t 4) (.t 43)))⟩,
      ⟨(some 5), none, (.q (.mov .nilp))⟩,
      ⟨(some 6), none, (.q (.mov (.k (.int .i64 3))))⟩] [4, 5, 6, 10]) (
    .ret)) (
    .seq (
    .reg [⟨(some 45), none, (.q (.mov (.t 11)))⟩,
      ⟨(some 46), none, (.q (.bin .neq 23 (.t 45) (.k (.int .i64 0))))⟩,
      ⟨(some 47), none, (.q (.mov (.t 46)))⟩,
      ⟨(some 48), (some (47, false)), (.q (.fld 1 1 (.t 10)))⟩,
      ⟨(some 49), (some (47, false)), (.rd (.ld false 1 (.t 48)))⟩,
      ⟨(some 50), (some (47, false)), (.q (.mov (.t 7)))⟩,
      ⟨(some 51), (some (47, false)), (.q (.bin .neq 3 (.t 49) (.t 50)))⟩,
      ⟨(some 52), none, (.q (.pick (.t 47) (.k (.bool true)) (.t 51)))⟩,
      ⟨(some 53), none, (.q (.mov (.t 52)))⟩,
      ⟨(some 54), (some (53, false)), (.q (.fld 0 0 (.t 10)))⟩,
      ⟨(some 55), (some (53, false)), (.rd (.ld false 1 (.t 54)))⟩,
      ⟨(some 56), (some (53, false)), (.q (.bin .eql 3 (.t 55) (.k (.int .i64 3))))⟩,
      ⟨(some 57), none, (.q (.pick (.t 53) (.k (.bool true)) (.t 56)))⟩,
      ⟨(some 58), none, (.q (.mov (.t 57)))⟩,
      ⟨(some 59), (some (58, false)), (.q (.fld 0 0 (.t 10)))⟩,
      ⟨(some 60), (some (58, false)), (.rd (.ld false 1 (.t 59)))⟩,
      ⟨(some 61), (some (58, false)), (.q (.bin .eql 3 (.t 60) (.k (.int .i64 6))))⟩,
      ⟨(some 62), none, (.q (.pick (.t 58) (.k (.bool true)) (.t 61)))⟩,
      ⟨(some 44), none, (.q (.mov (.t 62)))⟩] [4, 9, 10, 44]) (
    .cond (.t 44) (
     .seq (
     .reg [⟨(some 63), none, (.q (.bld (.agg [1, 1, 1, 1, 1, 1, 1, 1, 1, 1, 1, 1, 1] [(.sc (.int .i64 0)), (.sc (.int .i64 0)), (.sc (.int .i64 0)), (.sc (.int .i64 0)), (.sc (.bool false)), (.sc (.int .u64 0)), (.sc (.int .i64 0)), (.sc (.int .i64 0)), (.slice none 0), (.sc (.int .i64 0)), (.slice none 0), (.sc (.int .i64 0)), (.sc (.int .i64 0))]) []))⟩,
       ⟨none, none, (.ac (.st 13 (.t 4) (.t 63)))⟩,
       ⟨(some 5), none, (.q (.mov .nilp))⟩,
       ⟨(some 6), none, (.q (.mov (.k (.int .i64 2))))⟩] [4, 5, 6, 10]) (
     .ret)) (
     .skip)))))) (
  .seq (
  .reg [⟨(some 64), none, (.rd (.ld true 13 (.t 10)))⟩,
    ⟨(some 65), none, (.q (.mov (.t 9)))⟩,
    ⟨none, none, (.ac (.st 13 (.t 4) (.t 64)))⟩,
    ⟨(some 5), none, (.q (.mov (.t 65)))⟩,
    ⟨(some 6), none, (.q (.mov (.k (.int .i64 0))))⟩] [4, 5, 6, 10]) (
  .ret)))))))),
  [.cell 4 true 13, .tmp 5, .tmp 6], [4, 10]⟩
noncomputable def g113 : HFn Tryz.prog := ⟨r113, fun K => wslow Tryz.prog K r113.code, fun _ _ hK => wslow_fits hK _ (by decide +kernel)⟩
theorem c113 : chkF Tryz.prog Tryz.f113 r113 = true := by decide +kernel

/-- (*doubletake/bucket.Bucket).Take -/
def r114 : RFn := ⟨2,
  .seq (
  .reg [⟨(some 4), none, (.q (.mov (.k (.bool false))))⟩] [0, 1]) (
  .seq (
  .seq (
  .reg [⟨(some 6), none, (.q (.mov (.t 1)))⟩,
    ⟨(some 7), none, (.q (.mm false [(.t 6), (.k (.int .i64 1000000))]))⟩,
    ⟨(some 1), none, (.q (.mov (.t 7)))⟩] [0, 1]) (
  .seq (
  .reg [⟨(some 8), none, (.q (.mov (.t 1)))⟩,
    ⟨(some 9), none, (.q (.mov (.t 0)))⟩,
    ⟨(some 10), none, (.q (.nchk (.t 9)))⟩,
    ⟨(some 11), none, (.q (.fld 3 3 (.t 10)))⟩,
    ⟨(some 12), none, (.rd (.ld false 1 (.t 11)))⟩,
    ⟨(some 13), none, (.q (.bin .gtr 3 (.t 8) (.t 12)))⟩] [0, 1, 13]) (
  .cond (.t 13) (
   .seq (
   .draw [(0, ⟨(some 14), none, (.q (.mov (.t 0)))⟩, 0),
     (1, ⟨(some 15), none, (.q (.nchk (.t 14)))⟩, 0),
     (2, ⟨(some 16), none, (.q (.fld 0 0 (.t 15)))⟩, 0),
     (3, ⟨(some 17), none, (.rd (.ld false 1 (.t 16)))⟩, 0),
     (4, ⟨(some 18), none, (.q (.mov (.t 1)))⟩, 0),
     (5, ⟨(some 19), none, (.q (.mov (.t 0)))⟩, 0),
     (6, ⟨(some 20), none, (.q (.nchk (.t 19)))⟩, 0),
     (7, ⟨(some 21), none, (.q (.fld 3 3 (.t 20)))⟩, 0),
     (8, ⟨(some 22), none, (.rd (.ld false 1 (.t 21)))⟩, 0),
     (9, ⟨(some 23), none, (.q (.bin .sub 3 (.t 18) (.t 22)))⟩, 0),
     (10, ⟨(some 24), none, (.q (.conv 3 26 (.t 23)))⟩, 0),
     (11, ⟨(some 25), none, (.q (.bin .mul 26 (.t 17) (.t 24)))⟩, 0),
     (12, ⟨(some 5), none, (.q (.mov (.t 25)))⟩, 0)] [0, 1, 5]) (
   .seq (
   .draw [(0, ⟨(some 26), none, (.q (.mov (.t 0)))⟩, 0),
     (1, ⟨(some 27), none, (.q (.mov (.t 0)))⟩, 0),
     (2, ⟨(some 28), none, (.q (.nchk (.t 27)))⟩, 0),
     (3, ⟨(some 29), none, (.q (.fld 1 1 (.t 28)))⟩, 0),
     (4, ⟨(some 30), none, (.rd (.ld false 1 (.t 29)))⟩, 0),
     (5, ⟨(some 31), none, (.q (.mov (.t 0)))⟩, 0),
     (6, ⟨(some 32), none, (.q (.nchk (.t 31)))⟩, 0),
     (7, ⟨(some 33), none, (.q (.fld 2 2 (.t 32)))⟩, 0),
     (8, ⟨(some 34), none, (.rd (.ld false 1 (.t 33)))⟩, 0),
     (9, ⟨(some 35), none, (.q (.mov (.t 5)))⟩, 0),
     (10, ⟨(some 36), none, (.q (.bin .add 26 (.t 34) (.t 35)))⟩, 0),
     (11, ⟨(some 37), none, (.q (.mm false [(.t 30), (.t 36)]))⟩, 0),
     (12, ⟨(some 38), none, (.q (.nchk (.t 26)))⟩, 0),
     (13, ⟨(some 39), none, (.q (.fld 2 2 (.t 38)))⟩, 0),
     (14, ⟨none, none, (.ac (.st 1 (.t 39) (.t 37)))⟩, 0)] [0, 1]) (
   .reg [⟨(some 40), none, (.q (.mov (.t 0)))⟩,
     ⟨(some 41), none, (.q (.mov (.t 1)))⟩,
     ⟨(some 42), none, (.q (.nchk (.t 40)))⟩,
     ⟨(some 43), none, (.q (.fld 3 3 (.t 42)))⟩,
     ⟨none, none, (.ac (.st 1 (.t 43) (.t 41)))⟩] [0]))) (
   .skip)))) (
  .seq (
  .seq (
  .reg [⟨(some 44), none, (.q (.mov (.t 0)))⟩,
    ⟨(some 45), none, (.q (.nchk (.t 44)))⟩,
    ⟨(some 46), none, (.q (.fld 2 2 (.t 45)))⟩,
    ⟨(some 47), none, (.rd (.ld false 1 (.t 46)))⟩,
    ⟨(some 48), none, (.q (.bin .lss 26 (.t 47) (.k (.float .f64 4607182418800017408))))⟩] [0, 48]) (
  .cond (.t 48) (
   .seq (
   .reg [⟨(some 4), none, (.q (.mov (.k (.bool false))))⟩] [4]) (
   .ret)) (
   .skip))) (
  .seq (
  .reg [⟨(some 49), none, (.q (.mov (.t 0)))⟩,
    ⟨(some 50), none, (.q (.nchk (.t 49)))⟩,
    ⟨(some 51), none, (.q (.fld 2 2 (.t 50)))⟩,
    ⟨(some 52), none, (.rd (.ld false 1 (.t 51)))⟩,
    ⟨(some 53), none, (.q (.bin .sub 26 (.t 52) (.k (.float .f64 4607182418800017408))))⟩,
    ⟨(some 54), none, (.q (.nchk (.t 49)))⟩,
    ⟨(some 55), none, (.q (.fld 2 2 (.t 54)))⟩,
    ⟨none, none, (.ac (.st 1 (.t 55) (.t 53)))⟩] []) (
  .seq (
  .reg [⟨(some 4), none, (.q (.mov (.k (.bool true))))⟩] [4]) (
  .ret))))),
  [.tmp 4], []⟩
noncomputable def g114 : HFn Tryz.prog := ⟨r114, fun K => wslow Tryz.prog K r114.code, fun _ _ hK => wslow_fits hK _ (by decide +kernel)⟩
theorem c114 : chkF Tryz.prog Tryz.f114 r114 = true := by decide +kernel

/-- (*doubletake/link.Link).Take -/
def r115 : RFn := ⟨3,
  .seq (
  .reg [⟨(some 4), none, (.al (.box (.t 1)))⟩,
    ⟨(some 6), none, (.q (.mov (.k (.bool false))))⟩] [0, 2, 4, 9]) (
  .seq (
  .seq (
  .draw [(0, ⟨(some 10), none, (.q (.mov (.t 0)))⟩, 0),
    (1, ⟨(some 11), none, (.q (.nchk (.t 10)))⟩, 0),
    (2, ⟨(some 12), none, (.q (.fld 2 2 (.t 11)))⟩, 0),
    (3, ⟨(some 13), none, (.q (.fld 2 2 (.t 4)))⟩, 0),
    (4, ⟨(some 14), none, (.rd (.ld false 1 (.t 13)))⟩, 0),
    (5, ⟨(some 15), none, (.ac (.callf 166 [(.t 12), (.t 14)]))⟩, 0),
    (6, ⟨(some 16), none, (.q (.bin .neq 3 (.t 15) (.k (.int .i64 1))))⟩, 0)] [0, 2, 4, 9, 16]) (
  .cond (.t 16) (
   .seq (
   .reg [⟨(some 6), none, (.q (.mov (.k (.bool false))))⟩] [4, 6, 9]) (
   .ret)) (
   .skip))) (
  .seq (
  .seq (
  .reg [⟨(some 17), none, (.q (.fld 4 4 (.t 4)))⟩,
    ⟨(some 18), none, (.rd (.ld false 1 (.t 17)))⟩,
    ⟨(some 19), none, (.q (.un .not (.t 18)))⟩] [0, 2, 4, 9, 19]) (
  .cond (.t 19) (
   .seq (
   .reg [⟨(some 6), none, (.q (.mov (.k (.bool true))))⟩] [4, 6, 9]) (
   .ret)) (
   .skip))) (
  .seq (
  .reg [⟨(some 7), none, (.q (.mov .nils))⟩] [0, 2, 4, 7]) (
  .seq (
  .seq (
  .reg [⟨(some 20), none, (.q (.mov (.t 0)))⟩,
    ⟨(some 21), none, (.q (.nchk (.t 20)))⟩,
    ⟨(some 22), none, (.q (.fld 1 1 (.t 21)))⟩,
    ⟨(some 23), none, (.rd (.ld false 1 (.t 22)))⟩,
    ⟨(some 24), none, (.q (.len false (.t 23)))⟩,
    ⟨(some 25), none, (.q (.mov (.k (.int .i64 0))))⟩] [0, 2, 4, 7, 23, 24, 25]) (
  .block 0 (
   .loop [0, 2, 4, 7, 23, 24, 25] (
    .free [9] (
    .seq (
    .reg [⟨(some 26), none, (.q (.bin .lss 3 (.t 25) (.t 24)))⟩] [0, 2, 4, 7, 9, 23, 24, 25, 26]) (
    .seq (
    .cond (.t 26) (
     .skip) (
     .exit 0)) (
    .seq (
    .block 1 (
     .seq (
     .reg [⟨(some 27), none, (.q (.ixs 2 (.t 23) (.t 25)))⟩,
       ⟨(some 28), none, (.rd (.ld true 2 (.t 27)))⟩,
       ⟨(some 9), none, (.al (.alloc (.agg [1, 1] [(.sc (.int .i64 0)), (.sc (.int .i64 0))])))⟩,
       ⟨none, none, (.ac (.st 2 (.t 9) (.t 28)))⟩] [0, 2, 4, 7, 9, 23, 24, 25]) (
     .seq (
     .reg [⟨(some 29), none, (.q (.fld 3 3 (.t 4)))⟩,
       ⟨(some 30), none, (.rd (.ld false 1 (.t 29)))⟩,
       ⟨(some 31), none, (.q (.fld 5 5 (.t 4)))⟩,
       ⟨(some 32), none, (.rd (.ld false 1 (.t 31)))⟩,
       ⟨(some 33), none, (.q (.fld 0 0 (.t 9)))⟩,
       ⟨(some 34), none, (.rd (.ld false 1 (.t 33)))⟩,
       ⟨(some 35), none, (.ac (.callf 167 [(.t 30), (.t 32), (.t 34)]))⟩] [0, 2, 4, 7, 9, 23, 24, 25, 35]) (
     .cond (.t 35) (
      .draw [(3, ⟨(some 39), none, (.q (.mov (.t 2)))⟩, 0),
        (4, ⟨(some 40), none, (.ac (.callf 136 [(.t 39)]))⟩, 0),
        (0, ⟨(some 36), none, (.q (.mov (.t 0)))⟩, 1),
        (1, ⟨(some 37), none, (.q (.nchk (.t 36)))⟩, 1),
        (2, ⟨(some 38), none, (.q (.fld 3 5 (.t 37)))⟩, 1),
        (5, ⟨(some 41), none, (.q (.fld 1 1 (.t 9)))⟩, 1),
        (6, ⟨(some 42), none, (.rd (.ld false 1 (.t 41)))⟩, 1),
        (7, ⟨(some 43), none, (.q (.bin .sub 3 (.t 40) (.t 42)))⟩, 0),
        (8, ⟨(some 44), none, (.q (.mm true [(.k (.int .i64 0)), (.t 43)]))⟩, 0),
        (9, ⟨(some 45), none, (.q (.conv 3 26 (.t 44)))⟩, 0),
        (10, ⟨(some 46), none, (.ac (.callf 168 [(.t 38), (.t 45)]))⟩, 0)] [0, 2, 4, 7, 9, 23, 24, 25]) (
      .reg [⟨(some 47), none, (.q (.mov (.t 7)))⟩,
        ⟨(some 48), none, (.rd (.ld true 2 (.t 9)))⟩,
        ⟨(some 49), none, (.al (.bldS 2 1 (.agg [1, 1] [(.sc (.int .i64 0)), (.sc (.int .i64 0))]) [(0, (.t 48))]))⟩,
        ⟨(some 50), none, (.ac (.app true 2 16 (.t 47) (.t 49)))⟩,
        ⟨(some 7), none, (.q (.mov (.t 50)))⟩] [0, 2, 4, 7, 9, 23, 24, 25]))))) (
    .reg [⟨(some 51), none, (.q (.bin .add 3 (.t 25) (.k (.int .i64 1))))⟩,
      ⟨(some 25), none, (.q (.mov (.t 51)))⟩] [0, 2, 4, 7, 9, 23, 24, 25])))))))) (
  .seq (
  .reg [⟨(some 52), none, (.q (.mov (.t 0)))⟩,
    ⟨(some 53), none, (.q (.mov (.t 7)))⟩,
    ⟨(some 54), none, (.q (.nchk (.t 52)))⟩,
    ⟨(some 55), none, (.q (.fld 1 1 (.t 54)))⟩,
    ⟨none, none, (.ac (.st 1 (.t 55) (.t 53)))⟩] [4, 9]) (
  .seq (
  .reg [⟨(some 6), none, (.q (.mov (.k (.bool true))))⟩] [4, 6, 9]) (
  .ret))))))),
  [.tmp 6], [4, 9]⟩
noncomputable def g115 : HFn Tryz.prog := ⟨r115, fun K => wslow Tryz.prog K r115.code, fun _ _ hK => wslow_fits hK _ (by decide +kernel)⟩
theorem c115 : chkF Tryz.prog Tryz.f115 r115 = true := by decide +kernel

/-- (*doubletake/seal.Log).has -/
def r116 : RFn := ⟨2,
  .seq (
  .reg [⟨(some 4), none, (.q (.mov (.k (.bool false))))⟩] [0, 1]) (
  .seq (
  .reg [⟨(some 5), none, (.q (.mov (.t 1)))⟩,
    ⟨(some 6), none, (.q (.bin .geq 3 (.t 5) (.k (.int .i64 0))))⟩,
    ⟨(some 7), none, (.q (.mov (.t 6)))⟩,
    ⟨(some 8), (some (7, true)), (.q (.mov (.t 1)))⟩,
    ⟨(some 9), (some (7, true)), (.q (.mov (.t 0)))⟩,
    ⟨(some 10), (some (7, true)), (.q (.nchk (.t 9)))⟩,
    ⟨(some 11), (some (7, true)), (.q (.fld 0 0 (.t 10)))⟩,
    ⟨(some 12), (some (7, true)), (.q (.fld 4 4 (.t 11)))⟩,
    ⟨(some 13), (some (7, true)), (.rd (.ld false 1 (.t 12)))⟩,
    ⟨(some 14), (some (7, true)), (.q (.bin .lss 3 (.t 8) (.t 13)))⟩,
    ⟨(some 15), none, (.q (.pick (.t 7) (.t 14) (.k (.bool false))))⟩,
    ⟨(some 4), none, (.q (.mov (.t 15)))⟩] [4]) (
  .ret)),
  [.tmp 4], []⟩
noncomputable def g116 : HFn Tryz.prog := ⟨r116, fun K => wslow Tryz.prog K r116.code, fun _ _ hK => wslow_fits hK _ (by decide +kernel)⟩
theorem c116 : chkF Tryz.prog Tryz.f116 r116 = true := by decide +kernel

/-- doubletake/seal.right -/
def r117 : RFn := ⟨1,
  .seq (
  .reg [⟨(some 1), none, (.al (.box (.t 0)))⟩,
    ⟨(some 2), none, (.q (.mov (.k (.bool false))))⟩] [1]) (
  .seq (
  .reg [⟨(some 3), none, (.q (.fld 0 0 (.t 1)))⟩,
    ⟨(some 4), none, (.rd (.ld false 1 (.t 3)))⟩,
    ⟨(some 5), none, (.q (.bin .geq 3 (.t 4) (.k (.int .i64 0))))⟩,
    ⟨(some 6), none, (.q (.mov (.t 5)))⟩,
    ⟨(some 7), (some (6, true)), (.q (.fld 0 0 (.t 1)))⟩,
    ⟨(some 8), (some (6, true)), (.rd (.ld false 1 (.t 7)))⟩,
    ⟨(some 9), (some (6, true)), (.q (.bin .leq 3 (.t 8) (.k (.int .i64 255))))⟩,
    ⟨(some 10), none, (.q (.pick (.t 6) (.t 9) (.k (.bool false))))⟩,
    ⟨(some 11), none, (.q (.mov (.t 10)))⟩,
    ⟨(some 12), (some (11, true)), (.q (.fld 1 1 (.t 1)))⟩,
    ⟨(some 13), (some (11, true)), (.rd (.ld false 1 (.t 12)))⟩,
    ⟨(some 14), (some (11, true)), (.q (.bin .geq 3 (.t 13) (.k (.int .i64 (-64)))))⟩,
    ⟨(some 15), none, (.q (.pick (.t 11) (.t 14) (.k (.bool false))))⟩,
    ⟨(some 16), none, (.q (.mov (.t 15)))⟩,
    ⟨(some 17), (some (16, true)), (.q (.fld 1 1 (.t 1)))⟩,
    ⟨(some 18), (some (16, true)), (.rd (.ld false 1 (.t 17)))⟩,
    ⟨(some 19), (some (16, true)), (.q (.bin .leq 3 (.t 18) (.k (.int .i64 64))))⟩,
    ⟨(some 20), none, (.q (.pick (.t 16) (.t 19) (.k (.bool false))))⟩,
    ⟨(some 21), none, (.q (.mov (.t 20)))⟩,
    ⟨(some 22), (some (21, true)), (.q (.fld 2 2 (.t 1)))⟩,
    ⟨(some 23), (some (21, true)), (.rd (.ld false 1 (.t 22)))⟩,
    ⟨(some 24), (some (21, true)), (.q (.bin .geq 3 (.t 23) (.k (.int .i64 (-64)))))⟩,
    ⟨(some 25), none, (.q (.pick (.t 21) (.t 24) (.k (.bool false))))⟩,
    ⟨(some 26), none, (.q (.mov (.t 25)))⟩,
    ⟨(some 27), (some (26, true)), (.q (.fld 2 2 (.t 1)))⟩,
    ⟨(some 28), (some (26, true)), (.rd (.ld false 1 (.t 27)))⟩,
    ⟨(some 29), (some (26, true)), (.q (.bin .leq 3 (.t 28) (.k (.int .i64 64))))⟩,
    ⟨(some 30), none, (.q (.pick (.t 26) (.t 29) (.k (.bool false))))⟩,
    ⟨(some 2), none, (.q (.mov (.t 30)))⟩] [1, 2]) (
  .ret)),
  [.tmp 2], [1]⟩
noncomputable def g117 : HFn Tryz.prog := ⟨r117, fun K => wslow Tryz.prog K r117.code, fun _ _ hK => wslow_fits hK _ (by decide +kernel)⟩
theorem c117 : chkF Tryz.prog Tryz.f117 r117 = true := by decide +kernel

/-- (*doubletake/seal.Log).Deadline -/
def r118 : RFn := ⟨2,
  .seq (
  .reg [⟨(some 4), none, (.q (.mov (.k (.int .i64 0))))⟩] [0, 1]) (
  .seq (
  .seq (
  .reg [⟨(some 5), none, (.q (.mov (.t 0)))⟩,
    ⟨(some 6), none, (.q (.mov (.t 1)))⟩,
    ⟨(some 7), none, (.ac (.callf 116 [(.t 5), (.t 6)]))⟩,
    ⟨(some 8), none, (.q (.un .not (.t 7)))⟩] [0, 1, 8]) (
  .cond (.t 8) (
   .seq (
   .reg [⟨(some 4), none, (.q (.mov (.k (.int .i64 0))))⟩] [4]) (
   .ret)) (
   .skip))) (
  .seq (
  .draw [(0, ⟨(some 9), none, (.q (.mov (.t 0)))⟩, 0),
    (1, ⟨(some 10), none, (.q (.nchk (.t 9)))⟩, 0),
    (2, ⟨(some 11), none, (.q (.fld 0 0 (.t 10)))⟩, 0),
    (3, ⟨(some 12), none, (.q (.fld 3 3 (.t 11)))⟩, 0),
    (4, ⟨(some 13), none, (.rd (.ld false 1 (.t 12)))⟩, 0),
    (5, ⟨(some 14), none, (.q (.mov (.t 1)))⟩, 0),
    (6, ⟨(some 15), none, (.q (.mov (.t 0)))⟩, 0),
    (7, ⟨(some 16), none, (.q (.nchk (.t 15)))⟩, 0),
    (8, ⟨(some 17), none, (.q (.fld 0 0 (.t 16)))⟩, 0),
    (9, ⟨(some 18), none, (.q (.fld 1 1 (.t 17)))⟩, 0),
    (10, ⟨(some 19), none, (.rd (.ld false 1 (.t 18)))⟩, 0),
    (11, ⟨(some 20), none, (.q (.bin .mul 3 (.t 14) (.t 19)))⟩, 0),
    (12, ⟨(some 21), none, (.q (.bin .add 3 (.t 13) (.t 20)))⟩, 0),
    (13, ⟨(some 22), none, (.q (.mov (.t 0)))⟩, 0),
    (14, ⟨(some 23), none, (.q (.nchk (.t 22)))⟩, 0),
    (15, ⟨(some 24), none, (.q (.fld 0 0 (.t 23)))⟩, 0),
    (16, ⟨(some 25), none, (.q (.fld 2 2 (.t 24)))⟩, 0),
    (17, ⟨(some 26), none, (.rd (.ld false 1 (.t 25)))⟩, 0),
    (18, ⟨(some 27), none, (.q (.bin .add 3 (.t 21) (.t 26)))⟩, 0),
    (19, ⟨(some 4), none, (.q (.mov (.t 27)))⟩, 0)] [4]) (
  .ret))),
  [.tmp 4], []⟩
noncomputable def g118 : HFn Tryz.prog := ⟨r118, fun K => wslow Tryz.prog K r118.code, fun _ _ hK => wslow_fits hK _ (by decide +kernel)⟩
theorem c118 : chkF Tryz.prog Tryz.f118 r118 = true := by decide +kernel

/-! (*doubletake/step.frame).turns -/
def o119n0 : List RI := [⟨(some 4), none, (.q (.mov (.t 0)))⟩, ⟨(some 5), none, (.q (.nchk (.t 4)))⟩, ⟨(some 6), none, (.q (.fld 1 10 (.t 5)))⟩, ⟨(some 7), none, (.q (.fld 2 2 (.t 6)))⟩, ⟨(some 8), none, (.rd (.ld true 192 (.t 7)))⟩, ⟨(some 9), none, (.q (.mov (.k (.int .i64 0))))⟩]
noncomputable def b119n0 (K : KTC) (k : KS) (a0 : AV) (c : KN) (p : KV) : Kr :=
  xNchk a0 fun v0 =>
  xFld 1 10 v0 fun v1 =>
  xFld 2 2 v1 fun v2 =>
  xLd k.t true 192 v2 fun v3 =>
  c [(0, a0), (8, v3), (9, (.sc (.int .i64 0)))] k
theorem e119n0 (K : KTC) (k : KS) (a0 : AV) (c : KN) (p : KV) : b119n0 K k a0 c p = wReg Tryz.prog K [0, 8, 9] o119n0 [(0, a0)] k c p := by unfold b119n0; simp only [xLd_eq, xFld_eq, xNchk_eq]; kernel_rfl
noncomputable def s119n0 (K : KTC) (e : Env) (k : KS) (c : KN) (p : KV) : Kr := gt e 0 fun a0 => b119n0 K k a0 c p
theorem p119n0 (K : KTC) (K' : KT) (hK : CSound K K') : FitsC Tryz.prog K' (.reg (s119n0 K)) (.reg o119n0 [0, 8, 9]) := fun e k c p y h => by
  obtain ⟨a0, h0, h⟩ := gt_some h
  exact wreg_fit hK (by decide +kernel) (keep_cons h0 (keep_nil)) (e119n0 K k a0 c p) h
def o119n1 : List RI := [⟨(some 10), none, (.q (.bin .lss 3 (.t 9) (.k (.int .i64 16))))⟩]
noncomputable def b119n1 (K : KTC) (k : KS) (a9 a0 a8 : AV) (x : Env) (c : KN) (p : KV) : Kr :=
  xLss 3 a9 (.sc (.int .i64 16)) fun v0 =>
  c (Env.keep ([(0, a0), (8, a8), (9, a9), (10, v0)] ++ x) [0, 3, 8, 9, 10]) k
theorem e119n1 (K : KTC) (k : KS) (a9 a0 a8 : AV) (x : Env) (c : KN) (p : KV) : b119n1 K k a9 a0 a8 x c p = wReg Tryz.prog K [0, 3, 8, 9, 10] o119n1 ([(9, a9), (0, a0), (8, a8)] ++ x) k c p := by unfold b119n1; simp only [xLss_eq]; kernel_rfl
noncomputable def s119n1 (K : KTC) (e : Env) (k : KS) (c : KN) (p : KV) : Kr := gt e 9 fun a9 => gt e 0 fun a0 => gt e 8 fun a8 => b119n1 K k a9 a0 a8 (e.keep [3]) c p
theorem p119n1 (K : KTC) (K' : KT) (hK : CSound K K') : FitsC Tryz.prog K' (.reg (s119n1 K)) (.reg o119n1 [0, 3, 8, 9, 10]) := fun e k c p y h => by
  obtain ⟨a9, h9, h⟩ := gt_some h
  obtain ⟨a0, h0, h⟩ := gt_some h
  obtain ⟨a8, h8, h⟩ := gt_some h
  exact wreg_fit hK (by decide +kernel) (keep_cons h9 (keep_cons h0 (keep_cons h8 (rfl)))) (e119n1 K k a9 a0 a8 (e.keep [3]) c p) h
def o119n2 : List RI := [⟨(some 11), none, (.q (.mov (.t 9)))⟩, ⟨(some 12), none, (.q (.ixv 16 12 true (.t 8) (.t 9)))⟩, ⟨(some 3), none, (.al (.alloc (.agg [1, 1, 1, 1, 1, 1, 1, 4, 1] [(.sc (.int .i64 0)), (.sc (.int .i64 0)), (.sc (.int .i64 0)), (.sc (.int .i64 0)), (.sc (.int .i64 0)), (.sc (.int .i64 0)), (.sc (.int .i64 0)), (.arr 1 (List.replicate 4 (.sc (.int .i64 0)))), (.sc (.int .i64 0))])))⟩, ⟨(some 2), none, (.q (.mov (.t 11)))⟩, ⟨none, none, (.ac (.st 12 (.t 3) (.t 12)))⟩]
noncomputable def b119n2 (K : KTC) (k : KS) (a9 a8 a0 : AV) (c : KN) (p : KV) : Kr :=
  (kQ Tryz.prog [(8, a8), (9, a9)] (.ixv 16 12 true (.t 8) (.t 9))).bind fun v0 =>
  xAlloc (.agg [1, 1, 1, 1, 1, 1, 1, 4, 1] [(.sc (.int .i64 0)), (.sc (.int .i64 0)), (.sc (.int .i64 0)), (.sc (.int .i64 0)), (.sc (.int .i64 0)), (.sc (.int .i64 0)), (.sc (.int .i64 0)), (.arr 1 (List.replicate 4 (.sc (.int .i64 0)))), (.sc (.int .i64 0))]) k fun v1 k1 =>
  pCall (kA (fun _ _ _ => none) [(3, v1), (12, v0)] k1 (.st 12 (.t 3) (.t 12))) (fun v2 k2 =>
  c [(0, a0), (2, a9), (3, v1), (8, a8), (9, a9)] k2) (p)
theorem e119n2 (K : KTC) (k : KS) (a9 a8 a0 : AV) (c : KN) (p : KV) : b119n2 K k a9 a8 a0 c p = wReg Tryz.prog K [0, 2, 3, 8, 9] o119n2 [(9, a9), (8, a8), (0, a0)] k c p := by unfold b119n2; simp only [xAlloc_eq]; kernel_rfl
noncomputable def s119n2 (K : KTC) (e : Env) (k : KS) (c : KN) (p : KV) : Kr := gt e 9 fun a9 => gt e 8 fun a8 => gt e 0 fun a0 => b119n2 K k a9 a8 a0 c p
theorem p119n2 (K : KTC) (K' : KT) (hK : CSound K K') : FitsC Tryz.prog K' (.reg (s119n2 K)) (.reg o119n2 [0, 2, 3, 8, 9]) := fun e k c p y h => by
  obtain ⟨a9, h9, h⟩ := gt_some h
  obtain ⟨a8, h8, h⟩ := gt_some h
  obtain ⟨a0, h0, h⟩ := gt_some h
  exact wreg_fit hK (by decide +kernel) (keep_cons h9 (keep_cons h8 (keep_cons h0 (keep_nil)))) (e119n2 K k a9 a8 a0 c p) h
def o119n3 : List RI := [⟨(some 13), none, (.q (.fld 0 0 (.t 3)))⟩, ⟨(some 14), none, (.rd (.ld false 1 (.t 13)))⟩, ⟨(some 15), none, (.q (.bin .eql 3 (.t 14) (.k (.int .i64 1))))⟩]
noncomputable def b119n3 (K : KTC) (k : KS) (a3 a0 a2 a8 a9 : AV) (c : KN) (p : KV) : Kr :=
  xFld 0 0 a3 fun v0 =>
  xLd k.t false 1 v0 fun v1 =>
  xEql 3 v1 (.sc (.int .i64 1)) fun v2 =>
  c [(0, a0), (2, a2), (3, a3), (8, a8), (9, a9), (15, v2)] k
theorem e119n3 (K : KTC) (k : KS) (a3 a0 a2 a8 a9 : AV) (c : KN) (p : KV) : b119n3 K k a3 a0 a2 a8 a9 c p = wReg Tryz.prog K [0, 2, 3, 8, 9, 15] o119n3 [(3, a3), (0, a0), (2, a2), (8, a8), (9, a9)] k c p := by unfold b119n3; simp only [xEql_eq, xLd_eq, xFld_eq]; kernel_rfl
noncomputable def s119n3 (K : KTC) (e : Env) (k : KS) (c : KN) (p : KV) : Kr := gt e 3 fun a3 => gt e 0 fun a0 => gt e 2 fun a2 => gt e 8 fun a8 => gt e 9 fun a9 => b119n3 K k a3 a0 a2 a8 a9 c p
theorem p119n3 (K : KTC) (K' : KT) (hK : CSound K K') : FitsC Tryz.prog K' (.reg (s119n3 K)) (.reg o119n3 [0, 2, 3, 8, 9, 15]) := fun e k c p y h => by
  obtain ⟨a3, h3, h⟩ := gt_some h
  obtain ⟨a0, h0, h⟩ := gt_some h
  obtain ⟨a2, h2, h⟩ := gt_some h
  obtain ⟨a8, h8, h⟩ := gt_some h
  obtain ⟨a9, h9, h⟩ := gt_some h
  exact wreg_fit hK (by decide +kernel) (keep_cons h3 (keep_cons h0 (keep_cons h2 (keep_cons h8 (keep_cons h9 (keep_nil)))))) (e119n3 K k a3 a0 a2 a8 a9 c p) h
def o119n4 : List RI := [⟨(some 16), none, (.q (.mov (.t 0)))⟩, ⟨(some 17), none, (.rd (.ld true 12 (.t 3)))⟩, ⟨(some 18), none, (.ac (.callf 169 [(.t 16), (.t 17)]))⟩, ⟨none, none, (.ac (.st 12 (.t 3) (.t 18)))⟩]
noncomputable def b119n4 (K : KTC) (k : KS) (a0 a3 a2 a8 a9 : AV) (c : KN) (p : KV) : Kr :=
  xLd k.t true 12 a3 fun v0 =>
  K 169 [a0, v0] k (fun v1 k1 =>
  pCall (kA (fun _ _ _ => none) [(3, a3), (18, v1)] k1 (.st 12 (.t 3) (.t 18))) (fun v2 k2 =>
  c [(0, a0), (2, a2), (3, a3), (8, a8), (9, a9)] k2) (p)) (p)
theorem e119n4 (K : KTC) (k : KS) (a0 a3 a2 a8 a9 : AV) (c : KN) (p : KV) : b119n4 K k a0 a3 a2 a8 a9 c p = wReg Tryz.prog K [0, 2, 3, 8, 9] o119n4 [(0, a0), (3, a3), (2, a2), (8, a8), (9, a9)] k c p := by unfold b119n4; simp only [xLd_eq]; kernel_rfl
noncomputable def s119n4 (K : KTC) (e : Env) (k : KS) (c : KN) (p : KV) : Kr := gt e 0 fun a0 => gt e 3 fun a3 => gt e 2 fun a2 => gt e 8 fun a8 => gt e 9 fun a9 => b119n4 K k a0 a3 a2 a8 a9 c p
theorem p119n4 (K : KTC) (K' : KT) (hK : CSound K K') : FitsC Tryz.prog K' (.reg (s119n4 K)) (.reg o119n4 [0, 2, 3, 8, 9]) := fun e k c p y h => by
  obtain ⟨a0, h0, h⟩ := gt_some h
  obtain ⟨a3, h3, h⟩ := gt_some h
  obtain ⟨a2, h2, h⟩ := gt_some h
  obtain ⟨a8, h8, h⟩ := gt_some h
  obtain ⟨a9, h9, h⟩ := gt_some h
  exact wreg_fit hK (by decide +kernel) (keep_cons h0 (keep_cons h3 (keep_cons h2 (keep_cons h8 (keep_cons h9 (keep_nil)))))) (e119n4 K k a0 a3 a2 a8 a9 c p) h
def o119n5 : Plan := [(2, ⟨(some 22), none, (.rd (.ld true 12 (.t 3)))⟩, 0), (3, ⟨(some 23), none, (.ac (.callf 170 [(.t 22)]))⟩, 0), (0, ⟨(some 20), none, (.q (.mov (.t 0)))⟩, 1), (1, ⟨(some 21), none, (.q (.mov (.t 2)))⟩, 1), (4, ⟨(some 19), none, (.q (.mov (.t 23)))⟩, 0), (5, ⟨(some 24), none, (.q (.ext 0 (.t 19)))⟩, 0), (7, ⟨(some 26), none, (.q (.nchk (.t 20)))⟩, 1), (8, ⟨(some 27), none, (.q (.fld 1 10 (.t 26)))⟩, 1), (9, ⟨(some 28), none, (.q (.fld 2 2 (.t 27)))⟩, 1), (10, ⟨(some 29), none, (.q (.ixa 16 12 (.t 28) (.t 21)))⟩, 0), (11, ⟨none, none, (.ac (.st 12 (.t 29) (.t 24)))⟩, 0), (6, ⟨(some 25), none, (.q (.ext 1 (.t 19)))⟩, 1)]
noncomputable def b119n5 (K : KTC) (k : KS) (a3 a0 a2 a8 a9 : AV) (c : KN) (p : KV) : Kr :=
  xLd k.t true 12 a3 fun v0 =>
  K 170 [v0] k (fun v1 k1 =>
  xExt 0 v1 fun v2 =>
  xNchk a0 fun v3 =>
  xFld 1 10 v3 fun v4 =>
  xFld 2 2 v4 fun v5 =>
  (kQ Tryz.prog [(28, v5), (21, a2)] (.ixa 16 12 (.t 28) (.t 21))).bind fun v6 =>
  pCall (kA (fun _ _ _ => none) [(29, v6), (24, v2)] k1 (.st 12 (.t 29) (.t 24))) (fun v7 k7 =>
  xExt 1 v1 fun v8 =>
  c [(0, a0), (3, a3), (8, a8), (9, a9)] k7) (fun v7 k7 => (kDead [k.t] k1.t Tryz.prog 1 (o119n5.drop 11) (Env.del [(29, v6), (28, v5), (27, v4), (26, v3), (24, v2), (19, v1), (21, a2), (20, a0), (23, v1), (22, v0), (3, a3), (0, a0), (2, a2), (8, a8), (9, a9)] none) k7).bind fun s => p v7 ⟨k7.t, s.nx⟩)) (fun v1 k1 => (kDead [] k.t Tryz.prog 1 (o119n5.drop 2) (Env.del [(22, v0), (3, a3), (0, a0), (2, a2), (8, a8), (9, a9)] (some 23)) k1).bind fun s => p v1 ⟨k1.t, s.nx⟩)
theorem e119n5 (K : KTC) (k : KS) (a3 a0 a2 a8 a9 : AV) (c : KN) (p : KV) : b119n5 K k a3 a0 a2 a8 a9 c p = wLive Tryz.prog K [0, 3, 8, 9] o119n5 [(3, a3), (0, a0), (2, a2), (8, a8), (9, a9)] k k.t [] c p := by unfold b119n5; simp only [xFld_eq, xNchk_eq, xExt_eq, xLd_eq]; kernel_rfl
noncomputable def s119n5 (K : KTC) (e : Env) (k : KS) (c : KN) (p : KV) : Kr := gt e 3 fun a3 => gt e 0 fun a0 => gt e 2 fun a2 => gt e 8 fun a8 => gt e 9 fun a9 => b119n5 K k a3 a0 a2 a8 a9 c p
theorem p119n5 (K : KTC) (K' : KT) (hK : CSound K K') : FitsC Tryz.prog K' (.reg (s119n5 K)) (.draw o119n5 [0, 3, 8, 9]) := fun e k c p y h => by
  obtain ⟨a3, h3, h⟩ := gt_some h
  obtain ⟨a0, h0, h⟩ := gt_some h
  obtain ⟨a2, h2, h⟩ := gt_some h
  obtain ⟨a8, h8, h⟩ := gt_some h
  obtain ⟨a9, h9, h⟩ := gt_some h
  exact wdraw_fit hK (by decide +kernel) (keep_cons h3 (keep_cons h0 (keep_cons h2 (keep_cons h8 (keep_cons h9 (keep_nil)))))) (e119n5 K k a3 a0 a2 a8 a9 c p) h
def o119n6 : List RI := [⟨(some 30), none, (.q (.bin .add 3 (.t 9) (.k (.int .i64 1))))⟩, ⟨(some 9), none, (.q (.mov (.t 30)))⟩]
noncomputable def b119n6 (K : KTC) (k : KS) (a9 a0 a3 a8 : AV) (c : KN) (p : KV) : Kr :=
  xAdd 3 a9 (.sc (.int .i64 1)) fun v0 =>
  c [(0, a0), (3, a3), (8, a8), (9, v0)] k
theorem e119n6 (K : KTC) (k : KS) (a9 a0 a3 a8 : AV) (c : KN) (p : KV) : b119n6 K k a9 a0 a3 a8 c p = wReg Tryz.prog K [0, 3, 8, 9] o119n6 [(9, a9), (0, a0), (3, a3), (8, a8)] k c p := by unfold b119n6; simp only [xAdd_eq]; kernel_rfl
noncomputable def s119n6 (K : KTC) (e : Env) (k : KS) (c : KN) (p : KV) : Kr := gt e 9 fun a9 => gt e 0 fun a0 => gt e 3 fun a3 => gt e 8 fun a8 => b119n6 K k a9 a0 a3 a8 c p
theorem p119n6 (K : KTC) (K' : KT) (hK : CSound K K') : FitsC Tryz.prog K' (.reg (s119n6 K)) (.reg o119n6 [0, 3, 8, 9]) := fun e k c p y h => by
  obtain ⟨a9, h9, h⟩ := gt_some h
  obtain ⟨a0, h0, h⟩ := gt_some h
  obtain ⟨a3, h3, h⟩ := gt_some h
  obtain ⟨a8, h8, h⟩ := gt_some h
  exact wreg_fit hK (by decide +kernel) (keep_cons h9 (keep_cons h0 (keep_cons h3 (keep_cons h8 (keep_nil))))) (e119n6 K k a9 a0 a3 a8 c p) h
def r119 : RFn := ⟨1, .seq (.reg o119n0 [0, 8, 9]) (.block 0 (.loop [0, 8, 9] (.free [3] (.seq (.reg o119n1 [0, 3, 8, 9, 10]) (.seq (.cond (.t 10) (.skip) (.exit 0)) (.seq (.block 1 (.seq (.reg o119n2 [0, 2, 3, 8, 9]) (.seq (.seq (.reg o119n3 [0, 2, 3, 8, 9, 15]) (.cond (.t 15) (.reg o119n4 [0, 2, 3, 8, 9]) (.skip))) (.draw o119n5 [0, 3, 8, 9])))) (.reg o119n6 [0, 3, 8, 9]))))))), [], [3]⟩
noncomputable def q119 (K : KTC) : FK := .seq (.reg (s119n0 K)) (.block 0 (.loop [0, 8, 9] (.free [3] (.seq (.reg (s119n1 K)) (.seq (.cond (.t 10) (.skip) (.exit 0)) (.seq (.block 1 (.seq (.reg (s119n2 K)) (.seq (.seq (.reg (s119n3 K)) (.cond (.t 15) (.reg (s119n4 K)) (.skip))) (.reg (s119n5 K))))) (.reg (s119n6 K))))))))
theorem ok119 (K : KTC) (K' : KT) (hK : CSound K K') : FitsC Tryz.prog K' (q119 K) r119.code := hs (p119n0 K _ hK) (hb (hl (by decide +kernel) (hf (hs (p119n1 K _ hK) (hs (hc (hk) (hx)) (hs (hb (hs (p119n2 K _ hK) (hs (hs (p119n3 K _ hK) (hc (p119n4 K _ hK) (hk))) (p119n5 K _ hK)))) (p119n6 K _ hK)))))))
noncomputable def g119 : HFn Tryz.prog := ⟨r119, q119, ok119⟩
theorem c119 : chkF Tryz.prog Tryz.f119 r119 = true := by decide +kernel

/-! (*doubletake/step.frame).set -/
def o120n0 : List RI := [⟨(some 4), none, (.q (.mov (.t 0)))⟩, ⟨(some 5), none, (.q (.nchk (.t 4)))⟩, ⟨(some 6), none, (.q (.fld 1 10 (.t 5)))⟩, ⟨(some 7), none, (.q (.fld 2 2 (.t 6)))⟩, ⟨(some 8), none, (.rd (.ld true 192 (.t 7)))⟩, ⟨(some 9), none, (.q (.mov (.k (.int .i64 0))))⟩]
noncomputable def b120n0 (K : KTC) (k : KS) (a0 : AV) (c : KN) (p : KV) : Kr :=
  xNchk a0 fun v0 =>
  xFld 1 10 v0 fun v1 =>
  xFld 2 2 v1 fun v2 =>
  xLd k.t true 192 v2 fun v3 =>
  c [(0, a0), (8, v3), (9, (.sc (.int .i64 0)))] k
theorem e120n0 (K : KTC) (k : KS) (a0 : AV) (c : KN) (p : KV) : b120n0 K k a0 c p = wReg Tryz.prog K [0, 8, 9] o120n0 [(0, a0)] k c p := by unfold b120n0; simp only [xLd_eq, xFld_eq, xNchk_eq]; kernel_rfl
noncomputable def s120n0 (K : KTC) (e : Env) (k : KS) (c : KN) (p : KV) : Kr := gt e 0 fun a0 => b120n0 K k a0 c p
theorem p120n0 (K : KTC) (K' : KT) (hK : CSound K K') : FitsC Tryz.prog K' (.reg (s120n0 K)) (.reg o120n0 [0, 8, 9]) := fun e k c p y h => by
  obtain ⟨a0, h0, h⟩ := gt_some h
  exact wreg_fit hK (by decide +kernel) (keep_cons h0 (keep_nil)) (e120n0 K k a0 c p) h
def o120n1 : List RI := [⟨(some 10), none, (.q (.bin .lss 3 (.t 9) (.k (.int .i64 16))))⟩]
noncomputable def b120n1 (K : KTC) (k : KS) (a9 a0 a8 : AV) (x : Env) (c : KN) (p : KV) : Kr :=
  xLss 3 a9 (.sc (.int .i64 16)) fun v0 =>
  c (Env.keep ([(0, a0), (8, a8), (9, a9), (10, v0)] ++ x) [0, 3, 8, 9, 10]) k
theorem e120n1 (K : KTC) (k : KS) (a9 a0 a8 : AV) (x : Env) (c : KN) (p : KV) : b120n1 K k a9 a0 a8 x c p = wReg Tryz.prog K [0, 3, 8, 9, 10] o120n1 ([(9, a9), (0, a0), (8, a8)] ++ x) k c p := by unfold b120n1; simp only [xLss_eq]; kernel_rfl
noncomputable def s120n1 (K : KTC) (e : Env) (k : KS) (c : KN) (p : KV) : Kr := gt e 9 fun a9 => gt e 0 fun a0 => gt e 8 fun a8 => b120n1 K k a9 a0 a8 (e.keep [3]) c p
theorem p120n1 (K : KTC) (K' : KT) (hK : CSound K K') : FitsC Tryz.prog K' (.reg (s120n1 K)) (.reg o120n1 [0, 3, 8, 9, 10]) := fun e k c p y h => by
  obtain ⟨a9, h9, h⟩ := gt_some h
  obtain ⟨a0, h0, h⟩ := gt_some h
  obtain ⟨a8, h8, h⟩ := gt_some h
  exact wreg_fit hK (by decide +kernel) (keep_cons h9 (keep_cons h0 (keep_cons h8 (rfl)))) (e120n1 K k a9 a0 a8 (e.keep [3]) c p) h
def o120n2 : List RI := [⟨(some 11), none, (.q (.mov (.t 9)))⟩, ⟨(some 12), none, (.q (.ixv 16 12 true (.t 8) (.t 9)))⟩, ⟨(some 3), none, (.al (.alloc (.agg [1, 1, 1, 1, 1, 1, 1, 4, 1] [(.sc (.int .i64 0)), (.sc (.int .i64 0)), (.sc (.int .i64 0)), (.sc (.int .i64 0)), (.sc (.int .i64 0)), (.sc (.int .i64 0)), (.sc (.int .i64 0)), (.arr 1 (List.replicate 4 (.sc (.int .i64 0)))), (.sc (.int .i64 0))])))⟩, ⟨(some 2), none, (.q (.mov (.t 11)))⟩, ⟨none, none, (.ac (.st 12 (.t 3) (.t 12)))⟩]
noncomputable def b120n2 (K : KTC) (k : KS) (a9 a8 a0 : AV) (c : KN) (p : KV) : Kr :=
  (kQ Tryz.prog [(8, a8), (9, a9)] (.ixv 16 12 true (.t 8) (.t 9))).bind fun v0 =>
  xAlloc (.agg [1, 1, 1, 1, 1, 1, 1, 4, 1] [(.sc (.int .i64 0)), (.sc (.int .i64 0)), (.sc (.int .i64 0)), (.sc (.int .i64 0)), (.sc (.int .i64 0)), (.sc (.int .i64 0)), (.sc (.int .i64 0)), (.arr 1 (List.replicate 4 (.sc (.int .i64 0)))), (.sc (.int .i64 0))]) k fun v1 k1 =>
  pCall (kA (fun _ _ _ => none) [(3, v1), (12, v0)] k1 (.st 12 (.t 3) (.t 12))) (fun v2 k2 =>
  c [(0, a0), (2, a9), (3, v1), (8, a8), (9, a9)] k2) (p)
theorem e120n2 (K : KTC) (k : KS) (a9 a8 a0 : AV) (c : KN) (p : KV) : b120n2 K k a9 a8 a0 c p = wReg Tryz.prog K [0, 2, 3, 8, 9] o120n2 [(9, a9), (8, a8), (0, a0)] k c p := by unfold b120n2; simp only [xAlloc_eq]; kernel_rfl
noncomputable def s120n2 (K : KTC) (e : Env) (k : KS) (c : KN) (p : KV) : Kr := gt e 9 fun a9 => gt e 8 fun a8 => gt e 0 fun a0 => b120n2 K k a9 a8 a0 c p
theorem p120n2 (K : KTC) (K' : KT) (hK : CSound K K') : FitsC Tryz.prog K' (.reg (s120n2 K)) (.reg o120n2 [0, 2, 3, 8, 9]) := fun e k c p y h => by
  obtain ⟨a9, h9, h⟩ := gt_some h
  obtain ⟨a8, h8, h⟩ := gt_some h
  obtain ⟨a0, h0, h⟩ := gt_some h
  exact wreg_fit hK (by decide +kernel) (keep_cons h9 (keep_cons h8 (keep_cons h0 (keep_nil)))) (e120n2 K k a9 a8 a0 c p) h
def o120n3 : List RI := [⟨(some 13), none, (.q (.fld 0 0 (.t 3)))⟩, ⟨(some 14), none, (.rd (.ld false 1 (.t 13)))⟩, ⟨(some 15), none, (.q (.bin .eql 3 (.t 14) (.k (.int .i64 0))))⟩, ⟨(some 16), none, (.q (.mov (.t 15)))⟩, ⟨(some 17), (some (16, true)), (.q (.mov (.t 0)))⟩, ⟨(some 18), (some (16, true)), (.q (.nchk (.t 17)))⟩, ⟨(some 19), (some (16, true)), (.q (.fld 3 213 (.t 18)))⟩, ⟨(some 20), (some (16, true)), (.rd (.ld false 1 (.t 19)))⟩, ⟨(some 21), (some (16, true)), (.q (.len false (.t 20)))⟩, ⟨(some 22), (some (16, true)), (.q (.bin .gtr 3 (.t 21) (.k (.int .i64 0))))⟩, ⟨(some 23), none, (.q (.pick (.t 16) (.t 22) (.k (.bool false))))⟩]
def o120n4 : Plan := [(0, ⟨(some 24), none, (.q (.mov (.t 0)))⟩, 0), (1, ⟨(some 25), none, (.q (.mov (.t 2)))⟩, 0), (3, ⟨(some 27), none, (.q (.mov (.t 0)))⟩, 0), (4, ⟨(some 28), none, (.q (.nchk (.t 27)))⟩, 0), (5, ⟨(some 29), none, (.q (.fld 3 213 (.t 28)))⟩, 0), (6, ⟨(some 30), none, (.rd (.ld false 1 (.t 29)))⟩, 0), (7, ⟨(some 31), none, (.q (.ixs 12 (.t 30) (.k (.int .i64 0))))⟩, 0), (8, ⟨(some 32), none, (.rd (.ld true 12 (.t 31)))⟩, 0), (9, ⟨(some 33), none, (.q (.mov (.t 0)))⟩, 0), (10, ⟨(some 34), none, (.q (.nchk (.t 33)))⟩, 0), (11, ⟨(some 35), none, (.q (.fld 3 213 (.t 34)))⟩, 0), (12, ⟨(some 36), none, (.rd (.ld false 1 (.t 35)))⟩, 0), (14, ⟨(some 38), none, (.q (.nchk (.t 24)))⟩, 0), (15, ⟨(some 39), none, (.q (.fld 1 10 (.t 38)))⟩, 0), (16, ⟨(some 40), none, (.q (.fld 2 2 (.t 39)))⟩, 0), (17, ⟨(some 41), none, (.q (.ixa 16 12 (.t 40) (.t 25)))⟩, 0), (18, ⟨none, none, (.ac (.st 12 (.t 41) (.t 32)))⟩, 0), (2, ⟨(some 26), none, (.q (.mov (.t 0)))⟩, 1), (13, ⟨(some 37), none, (.q (.slc 12 (.t 36) (some (.k (.int .i64 1))) none))⟩, 1), (19, ⟨(some 42), none, (.q (.nchk (.t 26)))⟩, 0), (20, ⟨(some 43), none, (.q (.fld 3 213 (.t 42)))⟩, 0), (21, ⟨none, none, (.ac (.st 1 (.t 43) (.t 37)))⟩, 0)]
noncomputable def b120n4 (K : KTC) (k : KS) (a0 a2 a3 a8 a9 : AV) (c : KN) (p : KV) : Kr :=
  xLdf k.t 3 213 false 1 a0 fun v0 =>
  xIxl k.t 12 true 12 v0 (.sc (.int .i64 0)) fun v1 =>
  xLdf k.t 3 213 false 1 a0 fun v2 =>
  xNchk a0 fun v3 =>
  xFld 1 10 v3 fun v4 =>
  xFld 2 2 v4 fun v5 =>
  (kQ Tryz.prog [(40, v5), (25, a2)] (.ixa 16 12 (.t 40) (.t 25))).bind fun v6 =>
  pCall (kA (fun _ _ _ => none) [(41, v6), (32, v1)] k (.st 12 (.t 41) (.t 32))) (fun v7 k7 =>
  (kQ Tryz.prog [(36, v2)] (.slc 12 (.t 36) (some (.k (.int .i64 1))) none)).bind fun v8 =>
  xStf k7 3 213 1 a0 v8 (fun v9 k9 =>
  c [(0, a0), (3, a3), (8, a8), (9, a9)] k9) (fun v9 k9 => (kDead [k.t] k7.t Tryz.prog 1 (o120n4.drop 22) (Env.del [(37, v8), (26, a0), (41, v6), (40, v5), (39, v4), (38, v3), (36, v2), (33, a0), (32, v1), (30, v0), (27, a0), (25, a2), (24, a0), (0, a0), (2, a2), (3, a3), (8, a8), (9, a9)] none) k9).bind fun s => p v9 ⟨k9.t, s.nx⟩)) (fun v7 k7 => (kDead [] k.t Tryz.prog 1 (o120n4.drop 17) (Env.del [(41, v6), (40, v5), (39, v4), (38, v3), (36, v2), (33, a0), (32, v1), (30, v0), (27, a0), (25, a2), (24, a0), (0, a0), (2, a2), (3, a3), (8, a8), (9, a9)] none) k7).bind fun s => p v7 ⟨k7.t, s.nx⟩)
theorem e120n4 (K : KTC) (k : KS) (a0 a2 a3 a8 a9 : AV) (c : KN) (p : KV) : b120n4 K k a0 a2 a3 a8 a9 c p = wLive Tryz.prog K [0, 3, 8, 9] o120n4 [(0, a0), (2, a2), (3, a3), (8, a8), (9, a9)] k k.t [] c p := by unfold b120n4; simp only [xStf_eq, xFld_eq, xNchk_eq, xIxl_eq, xLdf_eq]; kernel_rfl
noncomputable def s120n4 (K : KTC) (e : Env) (k : KS) (c : KN) (p : KV) : Kr := gt e 0 fun a0 => gt e 2 fun a2 => gt e 3 fun a3 => gt e 8 fun a8 => gt e 9 fun a9 => b120n4 K k a0 a2 a3 a8 a9 c p
theorem p120n4 (K : KTC) (K' : KT) (hK : CSound K K') : FitsC Tryz.prog K' (.reg (s120n4 K)) (.draw o120n4 [0, 3, 8, 9]) := fun e k c p y h => by
  obtain ⟨a0, h0, h⟩ := gt_some h
  obtain ⟨a2, h2, h⟩ := gt_some h
  obtain ⟨a3, h3, h⟩ := gt_some h
  obtain ⟨a8, h8, h⟩ := gt_some h
  obtain ⟨a9, h9, h⟩ := gt_some h
  exact wdraw_fit hK (by decide +kernel) (keep_cons h0 (keep_cons h2 (keep_cons h3 (keep_cons h8 (keep_cons h9 (keep_nil)))))) (e120n4 K k a0 a2 a3 a8 a9 c p) h
def o120n5 : List RI := [⟨(some 44), none, (.q (.bin .add 3 (.t 9) (.k (.int .i64 1))))⟩, ⟨(some 9), none, (.q (.mov (.t 44)))⟩]
noncomputable def b120n5 (K : KTC) (k : KS) (a9 a0 a3 a8 : AV) (c : KN) (p : KV) : Kr :=
  xAdd 3 a9 (.sc (.int .i64 1)) fun v0 =>
  c [(0, a0), (3, a3), (8, a8), (9, v0)] k
theorem e120n5 (K : KTC) (k : KS) (a9 a0 a3 a8 : AV) (c : KN) (p : KV) : b120n5 K k a9 a0 a3 a8 c p = wReg Tryz.prog K [0, 3, 8, 9] o120n5 [(9, a9), (0, a0), (3, a3), (8, a8)] k c p := by unfold b120n5; simp only [xAdd_eq]; kernel_rfl
noncomputable def s120n5 (K : KTC) (e : Env) (k : KS) (c : KN) (p : KV) : Kr := gt e 9 fun a9 => gt e 0 fun a0 => gt e 3 fun a3 => gt e 8 fun a8 => b120n5 K k a9 a0 a3 a8 c p
theorem p120n5 (K : KTC) (K' : KT) (hK : CSound K K') : FitsC Tryz.prog K' (.reg (s120n5 K)) (.reg o120n5 [0, 3, 8, 9]) := fun e k c p y h => by
  obtain ⟨a9, h9, h⟩ := gt_some h
  obtain ⟨a0, h0, h⟩ := gt_some h
  obtain ⟨a3, h3, h⟩ := gt_some h
  obtain ⟨a8, h8, h⟩ := gt_some h
  exact wreg_fit hK (by decide +kernel) (keep_cons h9 (keep_cons h0 (keep_cons h3 (keep_cons h8 (keep_nil))))) (e120n5 K k a9 a0 a3 a8 c p) h
def r120 : RFn := ⟨1, .seq (.reg o120n0 [0, 8, 9]) (.block 0 (.loop [0, 8, 9] (.free [3] (.seq (.reg o120n1 [0, 3, 8, 9, 10]) (.seq (.cond (.t 10) (.skip) (.exit 0)) (.seq (.block 1 (.seq (.reg o120n2 [0, 2, 3, 8, 9]) (.seq (.reg o120n3 [0, 2, 3, 8, 9, 23]) (.cond (.t 23) (.draw o120n4 [0, 3, 8, 9]) (.skip))))) (.reg o120n5 [0, 3, 8, 9]))))))), [], [3]⟩
noncomputable def q120 (K : KTC) : FK := .seq (.reg (s120n0 K)) (.block 0 (.loop [0, 8, 9] (.free [3] (.seq (.reg (s120n1 K)) (.seq (.cond (.t 10) (.skip) (.exit 0)) (.seq (.block 1 (.seq (.reg (s120n2 K)) (.seq (.reg fun e k c p => wReg Tryz.prog K [0, 2, 3, 8, 9, 23] o120n3 e k c p) (.cond (.t 23) (.reg (s120n4 K)) (.skip))))) (.reg (s120n5 K))))))))
theorem ok120 (K : KTC) (K' : KT) (hK : CSound K K') : FitsC Tryz.prog K' (q120 K) r120.code := hs (p120n0 K _ hK) (hb (hl (by decide +kernel) (hf (hs (p120n1 K _ hK) (hs (hc (hk) (hx)) (hs (hb (hs (p120n2 K _ hK) (hs (wslow_reg hK) (hc (p120n4 K _ hK) (hk))))) (p120n5 K _ hK)))))))
noncomputable def g120 : HFn Tryz.prog := ⟨r120, q120, ok120⟩
theorem c120 : chkF Tryz.prog Tryz.f120 r120 = true := by decide +kernel

/-! (*doubletake/step.frame).hits -/
def o121n0 : List RI := [⟨(some 6), none, (.q (.mov (.k (.int .i64 0))))⟩]
noncomputable def b121n0 (K : KTC) (k : KS) (a0 : AV) (c : KN) (p : KV) : Kr :=
  c [(0, a0), (6, (.sc (.int .i64 0)))] k
theorem e121n0 (K : KTC) (k : KS) (a0 : AV) (c : KN) (p : KV) : b121n0 K k a0 c p = wReg Tryz.prog K [0, 6] o121n0 [(0, a0)] k c p := by unfold b121n0; kernel_rfl
noncomputable def s121n0 (K : KTC) (e : Env) (k : KS) (c : KN) (p : KV) : Kr := gt e 0 fun a0 => b121n0 K k a0 c p
theorem p121n0 (K : KTC) (K' : KT) (hK : CSound K K') : FitsC Tryz.prog K' (.reg (s121n0 K)) (.reg o121n0 [0, 6]) := fun e k c p y h => by
  obtain ⟨a0, h0, h⟩ := gt_some h
  exact wreg_fit hK (by decide +kernel) (keep_cons h0 (keep_nil)) (e121n0 K k a0 c p) h
def o121n1 : List RI := [⟨(some 7), none, (.q (.bin .lss 3 (.t 6) (.k (.int .i64 16))))⟩]
noncomputable def b121n1 (K : KTC) (k : KS) (a6 a0 : AV) (x : Env) (c : KN) (p : KV) : Kr :=
  xLss 3 a6 (.sc (.int .i64 16)) fun v0 =>
  c (Env.keep ([(0, a0), (6, a6), (7, v0)] ++ x) [0, 3, 5, 6, 7]) k
theorem e121n1 (K : KTC) (k : KS) (a6 a0 : AV) (x : Env) (c : KN) (p : KV) : b121n1 K k a6 a0 x c p = wReg Tryz.prog K [0, 3, 5, 6, 7] o121n1 ([(6, a6), (0, a0)] ++ x) k c p := by unfold b121n1; simp only [xLss_eq]; kernel_rfl
noncomputable def s121n1 (K : KTC) (e : Env) (k : KS) (c : KN) (p : KV) : Kr := gt e 6 fun a6 => gt e 0 fun a0 => b121n1 K k a6 a0 (e.keep [3, 5]) c p
theorem p121n1 (K : KTC) (K' : KT) (hK : CSound K K') : FitsC Tryz.prog K' (.reg (s121n1 K)) (.reg o121n1 [0, 3, 5, 6, 7]) := fun e k c p y h => by
  obtain ⟨a6, h6, h⟩ := gt_some h
  obtain ⟨a0, h0, h⟩ := gt_some h
  exact wreg_fit hK (by decide +kernel) (keep_cons h6 (keep_cons h0 (rfl))) (e121n1 K k a6 a0 (e.keep [3, 5]) c p) h
def o121n2 : List RI := [⟨(some 8), none, (.q (.mov (.t 6)))⟩, ⟨(some 2), none, (.q (.mov (.t 8)))⟩]
noncomputable def b121n2 (K : KTC) (k : KS) (a6 a0 : AV) (x : Env) (c : KN) (p : KV) : Kr :=
  c (Env.keep ([(0, a0), (2, a6), (6, a6)] ++ x) [0, 2, 5, 6]) k
theorem e121n2 (K : KTC) (k : KS) (a6 a0 : AV) (x : Env) (c : KN) (p : KV) : b121n2 K k a6 a0 x c p = wReg Tryz.prog K [0, 2, 5, 6] o121n2 ([(6, a6), (0, a0)] ++ x) k c p := by unfold b121n2; kernel_rfl
noncomputable def s121n2 (K : KTC) (e : Env) (k : KS) (c : KN) (p : KV) : Kr := gt e 6 fun a6 => gt e 0 fun a0 => b121n2 K k a6 a0 (e.keep [5]) c p
theorem p121n2 (K : KTC) (K' : KT) (hK : CSound K K') : FitsC Tryz.prog K' (.reg (s121n2 K)) (.reg o121n2 [0, 2, 5, 6]) := fun e k c p y h => by
  obtain ⟨a6, h6, h⟩ := gt_some h
  obtain ⟨a0, h0, h⟩ := gt_some h
  exact wreg_fit hK (by decide +kernel) (keep_cons h6 (keep_cons h0 (rfl))) (e121n2 K k a6 a0 (e.keep [5]) c p) h
def o121n3 : List RI := [⟨(some 9), none, (.q (.mov (.t 0)))⟩, ⟨(some 10), none, (.q (.mov (.t 2)))⟩, ⟨(some 11), none, (.q (.nchk (.t 9)))⟩, ⟨(some 12), none, (.q (.fld 1 10 (.t 11)))⟩, ⟨(some 13), none, (.q (.fld 2 2 (.t 12)))⟩, ⟨(some 14), none, (.q (.ixa 16 12 (.t 13) (.t 10)))⟩, ⟨(some 15), none, (.rd (.ld true 12 (.t 14)))⟩, ⟨(some 3), none, (.al (.alloc (.agg [1, 1, 1, 1, 1, 1, 1, 4, 1] [(.sc (.int .i64 0)), (.sc (.int .i64 0)), (.sc (.int .i64 0)), (.sc (.int .i64 0)), (.sc (.int .i64 0)), (.sc (.int .i64 0)), (.sc (.int .i64 0)), (.arr 1 (List.replicate 4 (.sc (.int .i64 0)))), (.sc (.int .i64 0))])))⟩, ⟨none, none, (.ac (.st 12 (.t 3) (.t 15)))⟩]
noncomputable def b121n3 (K : KTC) (k : KS) (a0 a2 a6 : AV) (x : Env) (c : KN) (p : KV) : Kr :=
  xNchk a0 fun v0 =>
  xFld 1 10 v0 fun v1 =>
  xFld 2 2 v1 fun v2 =>
  (kQ Tryz.prog [(13, v2), (10, a2)] (.ixa 16 12 (.t 13) (.t 10))).bind fun v3 =>
  xLd k.t true 12 v3 fun v4 =>
  xAlloc (.agg [1, 1, 1, 1, 1, 1, 1, 4, 1] [(.sc (.int .i64 0)), (.sc (.int .i64 0)), (.sc (.int .i64 0)), (.sc (.int .i64 0)), (.sc (.int .i64 0)), (.sc (.int .i64 0)), (.sc (.int .i64 0)), (.arr 1 (List.replicate 4 (.sc (.int .i64 0)))), (.sc (.int .i64 0))]) k fun v5 k5 =>
  pCall (kA (fun _ _ _ => none) [(3, v5), (15, v4)] k5 (.st 12 (.t 3) (.t 15))) (fun v6 k6 =>
  c (Env.keep ([(0, a0), (2, a2), (3, v5), (6, a6)] ++ x) [0, 2, 3, 5, 6]) k6) (p)
theorem e121n3 (K : KTC) (k : KS) (a0 a2 a6 : AV) (x : Env) (c : KN) (p : KV) : b121n3 K k a0 a2 a6 x c p = wReg Tryz.prog K [0, 2, 3, 5, 6] o121n3 ([(0, a0), (2, a2), (6, a6)] ++ x) k c p := by unfold b121n3; simp only [xAlloc_eq, xLd_eq, xFld_eq, xNchk_eq]; kernel_rfl
noncomputable def s121n3 (K : KTC) (e : Env) (k : KS) (c : KN) (p : KV) : Kr := gt e 0 fun a0 => gt e 2 fun a2 => gt e 6 fun a6 => b121n3 K k a0 a2 a6 (e.keep [5]) c p
theorem p121n3 (K : KTC) (K' : KT) (hK : CSound K K') : FitsC Tryz.prog K' (.reg (s121n3 K)) (.reg o121n3 [0, 2, 3, 5, 6]) := fun e k c p y h => by
  obtain ⟨a0, h0, h⟩ := gt_some h
  obtain ⟨a2, h2, h⟩ := gt_some h
  obtain ⟨a6, h6, h⟩ := gt_some h
  exact wreg_fit hK (by decide +kernel) (keep_cons h0 (keep_cons h2 (keep_cons h6 (rfl)))) (e121n3 K k a0 a2 a6 (e.keep [5]) c p) h
def o121n4 : List RI := [⟨(some 16), none, (.q (.fld 0 0 (.t 3)))⟩, ⟨(some 17), none, (.rd (.ld false 1 (.t 16)))⟩, ⟨(some 18), none, (.q (.bin .neq 3 (.t 17) (.k (.int .i64 2))))⟩]
noncomputable def b121n4 (K : KTC) (k : KS) (a3 a0 a2 a6 : AV) (x : Env) (c : KN) (p : KV) : Kr :=
  xFld 0 0 a3 fun v0 =>
  xLd k.t false 1 v0 fun v1 =>
  xNeq 3 v1 (.sc (.int .i64 2)) fun v2 =>
  c (Env.keep ([(0, a0), (2, a2), (3, a3), (6, a6), (18, v2)] ++ x) [0, 2, 3, 5, 6, 18]) k
theorem e121n4 (K : KTC) (k : KS) (a3 a0 a2 a6 : AV) (x : Env) (c : KN) (p : KV) : b121n4 K k a3 a0 a2 a6 x c p = wReg Tryz.prog K [0, 2, 3, 5, 6, 18] o121n4 ([(3, a3), (0, a0), (2, a2), (6, a6)] ++ x) k c p := by unfold b121n4; simp only [xNeq_eq, xLd_eq, xFld_eq]; kernel_rfl
noncomputable def s121n4 (K : KTC) (e : Env) (k : KS) (c : KN) (p : KV) : Kr := gt e 3 fun a3 => gt e 0 fun a0 => gt e 2 fun a2 => gt e 6 fun a6 => b121n4 K k a3 a0 a2 a6 (e.keep [5]) c p
theorem p121n4 (K : KTC) (K' : KT) (hK : CSound K K') : FitsC Tryz.prog K' (.reg (s121n4 K)) (.reg o121n4 [0, 2, 3, 5, 6, 18]) := fun e k c p y h => by
  obtain ⟨a3, h3, h⟩ := gt_some h
  obtain ⟨a0, h0, h⟩ := gt_some h
  obtain ⟨a2, h2, h⟩ := gt_some h
  obtain ⟨a6, h6, h⟩ := gt_some h
  exact wreg_fit hK (by decide +kernel) (keep_cons h3 (keep_cons h0 (keep_cons h2 (keep_cons h6 (rfl))))) (e121n4 K k a3 a0 a2 a6 (e.keep [5]) c p) h
def o121n5 : List RI := [⟨(some 19), none, (.q (.mov (.t 0)))⟩, ⟨(some 20), none, (.rd (.ld true 12 (.t 3)))⟩, ⟨(some 21), none, (.ac (.callf 171 [(.t 19), (.t 20)]))⟩, ⟨(some 4), none, (.q (.mov (.t 21)))⟩]
noncomputable def b121n5 (K : KTC) (k : KS) (a0 a3 a2 a6 : AV) (x : Env) (c : KN) (p : KV) : Kr :=
  xLd k.t true 12 a3 fun v0 =>
  K 171 [a0, v0] k (fun v1 k1 =>
  c (Env.keep ([(0, a0), (2, a2), (3, a3), (4, v1), (6, a6)] ++ x) [0, 2, 3, 4, 5, 6]) k1) (p)
theorem e121n5 (K : KTC) (k : KS) (a0 a3 a2 a6 : AV) (x : Env) (c : KN) (p : KV) : b121n5 K k a0 a3 a2 a6 x c p = wReg Tryz.prog K [0, 2, 3, 4, 5, 6] o121n5 ([(0, a0), (3, a3), (2, a2), (6, a6)] ++ x) k c p := by unfold b121n5; simp only [xLd_eq]; kernel_rfl
noncomputable def s121n5 (K : KTC) (e : Env) (k : KS) (c : KN) (p : KV) : Kr := gt e 0 fun a0 => gt e 3 fun a3 => gt e 2 fun a2 => gt e 6 fun a6 => b121n5 K k a0 a3 a2 a6 (e.keep [5]) c p
theorem p121n5 (K : KTC) (K' : KT) (hK : CSound K K') : FitsC Tryz.prog K' (.reg (s121n5 K)) (.reg o121n5 [0, 2, 3, 4, 5, 6]) := fun e k c p y h => by
  obtain ⟨a0, h0, h⟩ := gt_some h
  obtain ⟨a3, h3, h⟩ := gt_some h
  obtain ⟨a2, h2, h⟩ := gt_some h
  obtain ⟨a6, h6, h⟩ := gt_some h
  exact wreg_fit hK (by decide +kernel) (keep_cons h0 (keep_cons h3 (keep_cons h2 (keep_cons h6 (rfl))))) (e121n5 K k a0 a3 a2 a6 (e.keep [5]) c p) h
def o121n6 : List RI := [⟨(some 22), none, (.q (.mov (.t 4)))⟩, ⟨(some 23), none, (.q (.bin .lss 3 (.t 22) (.k (.int .i64 0))))⟩]
noncomputable def b121n6 (K : KTC) (k : KS) (a4 a0 a2 a3 a6 : AV) (x : Env) (c : KN) (p : KV) : Kr :=
  xLss 3 a4 (.sc (.int .i64 0)) fun v0 =>
  c (Env.keep ([(0, a0), (2, a2), (3, a3), (4, a4), (6, a6), (23, v0)] ++ x) [0, 2, 3, 4, 5, 6, 23]) k
theorem e121n6 (K : KTC) (k : KS) (a4 a0 a2 a3 a6 : AV) (x : Env) (c : KN) (p : KV) : b121n6 K k a4 a0 a2 a3 a6 x c p = wReg Tryz.prog K [0, 2, 3, 4, 5, 6, 23] o121n6 ([(4, a4), (0, a0), (2, a2), (3, a3), (6, a6)] ++ x) k c p := by unfold b121n6; simp only [xLss_eq]; kernel_rfl
noncomputable def s121n6 (K : KTC) (e : Env) (k : KS) (c : KN) (p : KV) : Kr := gt e 4 fun a4 => gt e 0 fun a0 => gt e 2 fun a2 => gt e 3 fun a3 => gt e 6 fun a6 => b121n6 K k a4 a0 a2 a3 a6 (e.keep [5]) c p
theorem p121n6 (K : KTC) (K' : KT) (hK : CSound K K') : FitsC Tryz.prog K' (.reg (s121n6 K)) (.reg o121n6 [0, 2, 3, 4, 5, 6, 23]) := fun e k c p y h => by
  obtain ⟨a4, h4, h⟩ := gt_some h
  obtain ⟨a0, h0, h⟩ := gt_some h
  obtain ⟨a2, h2, h⟩ := gt_some h
  obtain ⟨a3, h3, h⟩ := gt_some h
  obtain ⟨a6, h6, h⟩ := gt_some h
  exact wreg_fit hK (by decide +kernel) (keep_cons h4 (keep_cons h0 (keep_cons h2 (keep_cons h3 (keep_cons h6 (rfl)))))) (e121n6 K k a4 a0 a2 a3 a6 (e.keep [5]) c p) h
def o121n7 : Plan := [(0, ⟨(some 24), none, (.q (.mov (.t 0)))⟩, 0), (1, ⟨(some 25), none, (.q (.fld 1 1 (.t 3)))⟩, 0), (2, ⟨(some 26), none, (.rd (.ld false 1 (.t 25)))⟩, 0), (3, ⟨(some 27), none, (.q (.mov (.t 0)))⟩, 0), (4, ⟨(some 28), none, (.q (.fld 1 1 (.t 3)))⟩, 0), (5, ⟨(some 29), none, (.rd (.ld false 1 (.t 28)))⟩, 0), (6, ⟨(some 30), none, (.q (.nchk (.t 27)))⟩, 0), (7, ⟨(some 31), none, (.q (.fld 1 10 (.t 30)))⟩, 0), (8, ⟨(some 32), none, (.q (.fld 3 194 (.t 31)))⟩, 0), (9, ⟨(some 33), none, (.q (.ixa 8 1 (.t 32) (.t 29)))⟩, 0), (10, ⟨(some 34), none, (.rd (.ld false 1 (.t 33)))⟩, 0), (11, ⟨(some 35), none, (.q (.bin .add 3 (.t 34) (.k (.int .i64 1))))⟩, 0), (12, ⟨(some 36), none, (.q (.mm false [(.t 35), (.k (.int .i64 2147483647))]))⟩, 0), (13, ⟨(some 37), none, (.q (.nchk (.t 24)))⟩, 0), (14, ⟨(some 38), none, (.q (.fld 1 10 (.t 37)))⟩, 0), (15, ⟨(some 39), none, (.q (.fld 3 194 (.t 38)))⟩, 0), (16, ⟨(some 40), none, (.q (.ixa 8 1 (.t 39) (.t 26)))⟩, 0), (17, ⟨none, none, (.ac (.st 1 (.t 40) (.t 36)))⟩, 0)]
noncomputable def b121n7 (K : KTC) (k : KS) (a0 a3 a2 a4 a6 : AV) (c : KN) (p : KV) : Kr :=
  xFld 1 1 a3 fun v0 =>
  xLd k.t false 1 v0 fun v1 =>
  xFld 1 1 a3 fun v2 =>
  xLd k.t false 1 v2 fun v3 =>
  xNchk a0 fun v4 =>
  xFld 1 10 v4 fun v5 =>
  xFld 3 194 v5 fun v6 =>
  (kQ Tryz.prog [(32, v6), (29, v3)] (.ixa 8 1 (.t 32) (.t 29))).bind fun v7 =>
  xLd k.t false 1 v7 fun v8 =>
  xAdd 3 v8 (.sc (.int .i64 1)) fun v9 =>
  xMM false v9 (.sc (.int .i64 2147483647)) fun v10 =>
  xNchk a0 fun v11 =>
  xFld 1 10 v11 fun v12 =>
  xFld 3 194 v12 fun v13 =>
  (kQ Tryz.prog [(39, v13), (26, v1)] (.ixa 8 1 (.t 39) (.t 26))).bind fun v14 =>
  pCall (kA (fun _ _ _ => none) [(40, v14), (36, v10)] k (.st 1 (.t 40) (.t 36))) (fun v15 k15 =>
  c [(0, a0), (2, a2), (3, a3), (4, a4), (6, a6)] k15) (fun v15 k15 => (kDead [] k.t Tryz.prog 1 (o121n7.drop 18) (Env.del [(40, v14), (39, v13), (38, v12), (37, v11), (36, v10), (35, v9), (34, v8), (33, v7), (32, v6), (31, v5), (30, v4), (29, v3), (28, v2), (27, a0), (26, v1), (25, v0), (24, a0), (0, a0), (3, a3), (2, a2), (4, a4), (6, a6)] none) k15).bind fun s => p v15 ⟨k15.t, s.nx⟩)
theorem e121n7 (K : KTC) (k : KS) (a0 a3 a2 a4 a6 : AV) (c : KN) (p : KV) : b121n7 K k a0 a3 a2 a4 a6 c p = wLive Tryz.prog K [0, 2, 3, 4, 6] o121n7 [(0, a0), (3, a3), (2, a2), (4, a4), (6, a6)] k k.t [] c p := by unfold b121n7; simp only [xMM_eq, xAdd_eq, xNchk_eq, xLd_eq, xFld_eq]; kernel_rfl
noncomputable def s121n7 (K : KTC) (e : Env) (k : KS) (c : KN) (p : KV) : Kr := gt e 0 fun a0 => gt e 3 fun a3 => gt e 2 fun a2 => gt e 4 fun a4 => gt e 6 fun a6 => b121n7 K k a0 a3 a2 a4 a6 c p
theorem p121n7 (K : KTC) (K' : KT) (hK : CSound K K') : FitsC Tryz.prog K' (.reg (s121n7 K)) (.draw o121n7 [0, 2, 3, 4, 6]) := fun e k c p y h => by
  obtain ⟨a0, h0, h⟩ := gt_some h
  obtain ⟨a3, h3, h⟩ := gt_some h
  obtain ⟨a2, h2, h⟩ := gt_some h
  obtain ⟨a4, h4, h⟩ := gt_some h
  obtain ⟨a6, h6, h⟩ := gt_some h
  exact wdraw_fit hK (by decide +kernel) (keep_cons h0 (keep_cons h3 (keep_cons h2 (keep_cons h4 (keep_cons h6 (keep_nil)))))) (e121n7 K k a0 a3 a2 a4 a6 c p) h
def o121n8 : List RI := [⟨(some 41), none, (.q (.mov (.t 0)))⟩, ⟨(some 42), none, (.q (.mov (.t 2)))⟩, ⟨(some 43), none, (.q (.bld (.agg [1, 1, 1, 1, 1, 1, 1, 4, 1] [(.sc (.int .i64 0)), (.sc (.int .i64 0)), (.sc (.int .i64 0)), (.sc (.int .i64 0)), (.sc (.int .i64 0)), (.sc (.int .i64 0)), (.sc (.int .i64 0)), (.arr 1 (List.replicate 4 (.sc (.int .i64 0)))), (.sc (.int .i64 0))]) []))⟩, ⟨(some 44), none, (.q (.nchk (.t 41)))⟩, ⟨(some 45), none, (.q (.fld 1 10 (.t 44)))⟩, ⟨(some 46), none, (.q (.fld 2 2 (.t 45)))⟩, ⟨(some 47), none, (.q (.ixa 16 12 (.t 46) (.t 42)))⟩, ⟨none, none, (.ac (.st 12 (.t 47) (.t 43)))⟩]
noncomputable def b121n8 (K : KTC) (k : KS) (a0 a2 a3 a4 a6 : AV) (c : KN) (p : KV) : Kr :=
  (kQ Tryz.prog [] (.bld (.agg [1, 1, 1, 1, 1, 1, 1, 4, 1] [(.sc (.int .i64 0)), (.sc (.int .i64 0)), (.sc (.int .i64 0)), (.sc (.int .i64 0)), (.sc (.int .i64 0)), (.sc (.int .i64 0)), (.sc (.int .i64 0)), (.arr 1 (List.replicate 4 (.sc (.int .i64 0)))), (.sc (.int .i64 0))]) [])).bind fun v0 =>
  xNchk a0 fun v1 =>
  xFld 1 10 v1 fun v2 =>
  xFld 2 2 v2 fun v3 =>
  (kQ Tryz.prog [(46, v3), (42, a2)] (.ixa 16 12 (.t 46) (.t 42))).bind fun v4 =>
  pCall (kA (fun _ _ _ => none) [(47, v4), (43, v0)] k (.st 12 (.t 47) (.t 43))) (fun v5 k5 =>
  c [(0, a0), (3, a3), (4, a4), (6, a6)] k5) (p)
theorem e121n8 (K : KTC) (k : KS) (a0 a2 a3 a4 a6 : AV) (c : KN) (p : KV) : b121n8 K k a0 a2 a3 a4 a6 c p = wReg Tryz.prog K [0, 3, 4, 6] o121n8 [(0, a0), (2, a2), (3, a3), (4, a4), (6, a6)] k c p := by unfold b121n8; simp only [xFld_eq, xNchk_eq]; kernel_rfl
noncomputable def s121n8 (K : KTC) (e : Env) (k : KS) (c : KN) (p : KV) : Kr := gt e 0 fun a0 => gt e 2 fun a2 => gt e 3 fun a3 => gt e 4 fun a4 => gt e 6 fun a6 => b121n8 K k a0 a2 a3 a4 a6 c p
theorem p121n8 (K : KTC) (K' : KT) (hK : CSound K K') : FitsC Tryz.prog K' (.reg (s121n8 K)) (.reg o121n8 [0, 3, 4, 6]) := fun e k c p y h => by
  obtain ⟨a0, h0, h⟩ := gt_some h
  obtain ⟨a2, h2, h⟩ := gt_some h
  obtain ⟨a3, h3, h⟩ := gt_some h
  obtain ⟨a4, h4, h⟩ := gt_some h
  obtain ⟨a6, h6, h⟩ := gt_some h
  exact wreg_fit hK (by decide +kernel) (keep_cons h0 (keep_cons h2 (keep_cons h3 (keep_cons h4 (keep_cons h6 (keep_nil)))))) (e121n8 K k a0 a2 a3 a4 a6 c p) h
def o121n9 : Plan := [(0, ⟨(some 48), none, (.q (.mov (.t 0)))⟩, 0), (1, ⟨(some 49), none, (.q (.mov (.t 4)))⟩, 0), (2, ⟨(some 50), none, (.q (.nchk (.t 48)))⟩, 0), (3, ⟨(some 51), none, (.q (.fld 1 10 (.t 50)))⟩, 0), (4, ⟨(some 52), none, (.q (.fld 2 2 (.t 51)))⟩, 0), (5, ⟨(some 53), none, (.q (.ixa 16 12 (.t 52) (.t 49)))⟩, 0), (6, ⟨(some 54), none, (.q (.fld 1 1 (.t 53)))⟩, 0), (7, ⟨(some 55), none, (.rd (.ld false 1 (.t 54)))⟩, 0), (8, ⟨(some 56), none, (.q (.mov (.t 0)))⟩, 0), (9, ⟨(some 57), none, (.q (.nchk (.t 56)))⟩, 0), (10, ⟨(some 58), none, (.q (.fld 0 0 (.t 57)))⟩, 0), (11, ⟨(some 59), none, (.q (.fld 0 0 (.t 58)))⟩, 0), (12, ⟨(some 60), none, (.rd (.ld false 1 (.t 59)))⟩, 0), (13, ⟨(some 61), none, (.ac (.callf 67 [(.t 55), (.t 60)]))⟩, 0), (14, ⟨(some 5), none, (.al (.alloc (.agg [1, 1, 1, 1, 1, 1, 1, 4, 1] [(.sc (.int .i64 0)), (.sc (.int .i64 0)), (.sc (.int .i64 0)), (.sc (.int .i64 0)), (.sc (.int .i64 0)), (.sc (.int .i64 0)), (.sc (.int .i64 0)), (.arr 1 (List.replicate 4 (.sc (.int .i64 0)))), (.sc (.int .i64 0))])))⟩, 1), (15, ⟨none, none, (.ac (.st 12 (.t 5) (.t 61)))⟩, 0)]
noncomputable def b121n9 (K : KTC) (k : KS) (a0 a4 a3 a6 : AV) (c : KN) (p : KV) : Kr :=
  xNchk a0 fun v0 =>
  xFld 1 10 v0 fun v1 =>
  xFld 2 2 v1 fun v2 =>
  (kQ Tryz.prog [(52, v2), (49, a4)] (.ixa 16 12 (.t 52) (.t 49))).bind fun v3 =>
  xFld 1 1 v3 fun v4 =>
  xLd k.t false 1 v4 fun v5 =>
  xNchk a0 fun v6 =>
  xFld 0 0 v6 fun v7 =>
  xFld 0 0 v7 fun v8 =>
  xLd k.t false 1 v8 fun v9 =>
  K 67 [v5, v9] k (fun v10 k10 =>
  xAlloc (.agg [1, 1, 1, 1, 1, 1, 1, 4, 1] [(.sc (.int .i64 0)), (.sc (.int .i64 0)), (.sc (.int .i64 0)), (.sc (.int .i64 0)), (.sc (.int .i64 0)), (.sc (.int .i64 0)), (.sc (.int .i64 0)), (.arr 1 (List.replicate 4 (.sc (.int .i64 0)))), (.sc (.int .i64 0))]) k10 fun v11 k11 =>
  pCall (kA (fun _ _ _ => none) [(5, v11), (61, v10)] k11 (.st 12 (.t 5) (.t 61))) (fun v12 k12 =>
  c [(0, a0), (3, a3), (4, a4), (5, v11), (6, a6)] k12) (fun v12 k12 => (kDead [k.t] k10.t Tryz.prog 1 (o121n9.drop 16) (Env.del [(5, v11), (61, v10), (60, v9), (59, v8), (58, v7), (57, v6), (56, a0), (55, v5), (54, v4), (53, v3), (52, v2), (51, v1), (50, v0), (49, a4), (48, a0), (0, a0), (4, a4), (3, a3), (6, a6)] none) k12).bind fun s => p v12 ⟨k12.t, s.nx⟩)) (fun v10 k10 => (kDead [] k.t Tryz.prog 1 (o121n9.drop 14) (Env.del [(60, v9), (59, v8), (58, v7), (57, v6), (56, a0), (55, v5), (54, v4), (53, v3), (52, v2), (51, v1), (50, v0), (49, a4), (48, a0), (0, a0), (4, a4), (3, a3), (6, a6)] (some 61)) k10).bind fun s => p v10 ⟨k10.t, s.nx⟩)
theorem e121n9 (K : KTC) (k : KS) (a0 a4 a3 a6 : AV) (c : KN) (p : KV) : b121n9 K k a0 a4 a3 a6 c p = wLive Tryz.prog K [0, 3, 4, 5, 6] o121n9 [(0, a0), (4, a4), (3, a3), (6, a6)] k k.t [] c p := by unfold b121n9; simp only [xAlloc_eq, xLd_eq, xFld_eq, xNchk_eq]; kernel_rfl
noncomputable def s121n9 (K : KTC) (e : Env) (k : KS) (c : KN) (p : KV) : Kr := gt e 0 fun a0 => gt e 4 fun a4 => gt e 3 fun a3 => gt e 6 fun a6 => b121n9 K k a0 a4 a3 a6 c p
theorem p121n9 (K : KTC) (K' : KT) (hK : CSound K K') : FitsC Tryz.prog K' (.reg (s121n9 K)) (.draw o121n9 [0, 3, 4, 5, 6]) := fun e k c p y h => by
  obtain ⟨a0, h0, h⟩ := gt_some h
  obtain ⟨a4, h4, h⟩ := gt_some h
  obtain ⟨a3, h3, h⟩ := gt_some h
  obtain ⟨a6, h6, h⟩ := gt_some h
  exact wdraw_fit hK (by decide +kernel) (keep_cons h0 (keep_cons h4 (keep_cons h3 (keep_cons h6 (keep_nil))))) (e121n9 K k a0 a4 a3 a6 c p) h
def o121n10 : List RI := [⟨(some 62), none, (.q (.mov (.t 0)))⟩, ⟨(some 63), none, (.q (.mov (.t 4)))⟩, ⟨(some 64), none, (.q (.nchk (.t 62)))⟩, ⟨(some 65), none, (.q (.fld 1 10 (.t 64)))⟩, ⟨(some 66), none, (.q (.fld 2 2 (.t 65)))⟩, ⟨(some 67), none, (.q (.ixa 16 12 (.t 66) (.t 63)))⟩, ⟨(some 68), none, (.q (.fld 8 11 (.t 67)))⟩, ⟨(some 69), none, (.rd (.ld false 1 (.t 68)))⟩, ⟨(some 70), none, (.q (.fld 8 11 (.t 5)))⟩, ⟨none, none, (.ac (.st 1 (.t 70) (.t 69)))⟩]
noncomputable def b121n10 (K : KTC) (k : KS) (a0 a4 a5 a3 a6 : AV) (c : KN) (p : KV) : Kr :=
  xNchk a0 fun v0 =>
  xFld 1 10 v0 fun v1 =>
  xFld 2 2 v1 fun v2 =>
  (kQ Tryz.prog [(66, v2), (63, a4)] (.ixa 16 12 (.t 66) (.t 63))).bind fun v3 =>
  xFld 8 11 v3 fun v4 =>
  xLd k.t false 1 v4 fun v5 =>
  xFld 8 11 a5 fun v6 =>
  pCall (kA (fun _ _ _ => none) [(70, v6), (69, v5)] k (.st 1 (.t 70) (.t 69))) (fun v7 k7 =>
  c [(0, a0), (3, a3), (4, a4), (5, a5), (6, a6)] k7) (p)
theorem e121n10 (K : KTC) (k : KS) (a0 a4 a5 a3 a6 : AV) (c : KN) (p : KV) : b121n10 K k a0 a4 a5 a3 a6 c p = wReg Tryz.prog K [0, 3, 4, 5, 6] o121n10 [(0, a0), (4, a4), (5, a5), (3, a3), (6, a6)] k c p := by unfold b121n10; simp only [xLd_eq, xFld_eq, xNchk_eq]; kernel_rfl
noncomputable def s121n10 (K : KTC) (e : Env) (k : KS) (c : KN) (p : KV) : Kr := gt e 0 fun a0 => gt e 4 fun a4 => gt e 5 fun a5 => gt e 3 fun a3 => gt e 6 fun a6 => b121n10 K k a0 a4 a5 a3 a6 c p
theorem p121n10 (K : KTC) (K' : KT) (hK : CSound K K') : FitsC Tryz.prog K' (.reg (s121n10 K)) (.reg o121n10 [0, 3, 4, 5, 6]) := fun e k c p y h => by
  obtain ⟨a0, h0, h⟩ := gt_some h
  obtain ⟨a4, h4, h⟩ := gt_some h
  obtain ⟨a5, h5, h⟩ := gt_some h
  obtain ⟨a3, h3, h⟩ := gt_some h
  obtain ⟨a6, h6, h⟩ := gt_some h
  exact wreg_fit hK (by decide +kernel) (keep_cons h0 (keep_cons h4 (keep_cons h5 (keep_cons h3 (keep_cons h6 (keep_nil)))))) (e121n10 K k a0 a4 a5 a3 a6 c p) h
def o121n11 : Plan := [(0, ⟨(some 71), none, (.q (.mov (.t 0)))⟩, 0), (1, ⟨(some 72), none, (.q (.mov (.t 4)))⟩, 0), (2, ⟨(some 73), none, (.rd (.ld true 12 (.t 5)))⟩, 0), (3, ⟨(some 74), none, (.q (.nchk (.t 71)))⟩, 0), (4, ⟨(some 75), none, (.q (.fld 1 10 (.t 74)))⟩, 0), (5, ⟨(some 76), none, (.q (.fld 2 2 (.t 75)))⟩, 0), (6, ⟨(some 77), none, (.q (.ixa 16 12 (.t 76) (.t 72)))⟩, 0), (7, ⟨none, none, (.ac (.st 12 (.t 77) (.t 73)))⟩, 0)]
noncomputable def b121n11 (K : KTC) (k : KS) (a0 a4 a5 a3 a6 : AV) (c : KN) (p : KV) : Kr :=
  xLd k.t true 12 a5 fun v0 =>
  xNchk a0 fun v1 =>
  xFld 1 10 v1 fun v2 =>
  xFld 2 2 v2 fun v3 =>
  (kQ Tryz.prog [(76, v3), (72, a4)] (.ixa 16 12 (.t 76) (.t 72))).bind fun v4 =>
  pCall (kA (fun _ _ _ => none) [(77, v4), (73, v0)] k (.st 12 (.t 77) (.t 73))) (fun v5 k5 =>
  c [(0, a0), (3, a3), (5, a5), (6, a6)] k5) (fun v5 k5 => (kDead [] k.t Tryz.prog 1 (o121n11.drop 8) (Env.del [(77, v4), (76, v3), (75, v2), (74, v1), (73, v0), (72, a4), (71, a0), (0, a0), (4, a4), (5, a5), (3, a3), (6, a6)] none) k5).bind fun s => p v5 ⟨k5.t, s.nx⟩)
theorem e121n11 (K : KTC) (k : KS) (a0 a4 a5 a3 a6 : AV) (c : KN) (p : KV) : b121n11 K k a0 a4 a5 a3 a6 c p = wLive Tryz.prog K [0, 3, 5, 6] o121n11 [(0, a0), (4, a4), (5, a5), (3, a3), (6, a6)] k k.t [] c p := by unfold b121n11; simp only [xFld_eq, xNchk_eq, xLd_eq]; kernel_rfl
noncomputable def s121n11 (K : KTC) (e : Env) (k : KS) (c : KN) (p : KV) : Kr := gt e 0 fun a0 => gt e 4 fun a4 => gt e 5 fun a5 => gt e 3 fun a3 => gt e 6 fun a6 => b121n11 K k a0 a4 a5 a3 a6 c p
theorem p121n11 (K : KTC) (K' : KT) (hK : CSound K K') : FitsC Tryz.prog K' (.reg (s121n11 K)) (.draw o121n11 [0, 3, 5, 6]) := fun e k c p y h => by
  obtain ⟨a0, h0, h⟩ := gt_some h
  obtain ⟨a4, h4, h⟩ := gt_some h
  obtain ⟨a5, h5, h⟩ := gt_some h
  obtain ⟨a3, h3, h⟩ := gt_some h
  obtain ⟨a6, h6, h⟩ := gt_some h
  exact wdraw_fit hK (by decide +kernel) (keep_cons h0 (keep_cons h4 (keep_cons h5 (keep_cons h3 (keep_cons h6 (keep_nil)))))) (e121n11 K k a0 a4 a5 a3 a6 c p) h
def o121n12 : List RI := [⟨(some 78), none, (.q (.bin .add 3 (.t 6) (.k (.int .i64 1))))⟩, ⟨(some 6), none, (.q (.mov (.t 78)))⟩]
noncomputable def b121n12 (K : KTC) (k : KS) (a6 a0 a3 : AV) (x : Env) (c : KN) (p : KV) : Kr :=
  xAdd 3 a6 (.sc (.int .i64 1)) fun v0 =>
  c (Env.keep ([(0, a0), (3, a3), (6, v0)] ++ x) [0, 3, 5, 6]) k
theorem e121n12 (K : KTC) (k : KS) (a6 a0 a3 : AV) (x : Env) (c : KN) (p : KV) : b121n12 K k a6 a0 a3 x c p = wReg Tryz.prog K [0, 3, 5, 6] o121n12 ([(6, a6), (0, a0), (3, a3)] ++ x) k c p := by unfold b121n12; simp only [xAdd_eq]; kernel_rfl
noncomputable def s121n12 (K : KTC) (e : Env) (k : KS) (c : KN) (p : KV) : Kr := gt e 6 fun a6 => gt e 0 fun a0 => gt e 3 fun a3 => b121n12 K k a6 a0 a3 (e.keep [5]) c p
theorem p121n12 (K : KTC) (K' : KT) (hK : CSound K K') : FitsC Tryz.prog K' (.reg (s121n12 K)) (.reg o121n12 [0, 3, 5, 6]) := fun e k c p y h => by
  obtain ⟨a6, h6, h⟩ := gt_some h
  obtain ⟨a0, h0, h⟩ := gt_some h
  obtain ⟨a3, h3, h⟩ := gt_some h
  exact wreg_fit hK (by decide +kernel) (keep_cons h6 (keep_cons h0 (keep_cons h3 (rfl)))) (e121n12 K k a6 a0 a3 (e.keep [5]) c p) h
def r121 : RFn := ⟨1, .seq (.reg o121n0 [0, 6]) (.block 0 (.loop [0, 6] (.free [3, 5] (.seq (.reg o121n1 [0, 3, 5, 6, 7]) (.seq (.cond (.t 7) (.skip) (.exit 0)) (.seq (.block 1 (.seq (.reg o121n2 [0, 2, 5, 6]) (.seq (.reg o121n3 [0, 2, 3, 5, 6]) (.seq (.seq (.reg o121n4 [0, 2, 3, 5, 6, 18]) (.cond (.t 18) (.exit 1) (.skip))) (.seq (.reg o121n5 [0, 2, 3, 4, 5, 6]) (.seq (.seq (.reg o121n6 [0, 2, 3, 4, 5, 6, 23]) (.cond (.t 23) (.exit 1) (.skip))) (.seq (.draw o121n7 [0, 2, 3, 4, 6]) (.seq (.reg o121n8 [0, 3, 4, 6]) (.seq (.draw o121n9 [0, 3, 4, 5, 6]) (.seq (.reg o121n10 [0, 3, 4, 5, 6]) (.draw o121n11 [0, 3, 5, 6]))))))))))) (.reg o121n12 [0, 3, 5, 6]))))))), [], [3, 5]⟩
noncomputable def q121 (K : KTC) : FK := .seq (.reg (s121n0 K)) (.block 0 (.loop [0, 6] (.free [3, 5] (.seq (.reg (s121n1 K)) (.seq (.cond (.t 7) (.skip) (.exit 0)) (.seq (.block 1 (.seq (.reg (s121n2 K)) (.seq (.reg (s121n3 K)) (.seq (.seq (.reg (s121n4 K)) (.cond (.t 18) (.exit 1) (.skip))) (.seq (.reg (s121n5 K)) (.seq (.seq (.reg (s121n6 K)) (.cond (.t 23) (.exit 1) (.skip))) (.seq (.reg (s121n7 K)) (.seq (.reg (s121n8 K)) (.seq (.reg (s121n9 K)) (.seq (.reg (s121n10 K)) (.reg (s121n11 K)))))))))))) (.reg (s121n12 K))))))))
theorem ok121 (K : KTC) (K' : KT) (hK : CSound K K') : FitsC Tryz.prog K' (q121 K) r121.code := hs (p121n0 K _ hK) (hb (hl (by decide +kernel) (hf (hs (p121n1 K _ hK) (hs (hc (hk) (hx)) (hs (hb (hs (p121n2 K _ hK) (hs (p121n3 K _ hK) (hs (hs (p121n4 K _ hK) (hc (hx) (hk))) (hs (p121n5 K _ hK) (hs (hs (p121n6 K _ hK) (hc (hx) (hk))) (hs (p121n7 K _ hK) (hs (p121n8 K _ hK) (hs (p121n9 K _ hK) (hs (p121n10 K _ hK) (p121n11 K _ hK))))))))))) (p121n12 K _ hK)))))))
noncomputable def g121 : HFn Tryz.prog := ⟨r121, q121, ok121⟩
theorem c121 : chkF Tryz.prog Tryz.f121 r121 = true := by decide +kernel

/-- doubletake/packet.head -/
def r122 : RFn := ⟨1,
  .seq (
  .reg [⟨(some 1), none, (.al (.box (.t 0)))⟩,
    ⟨(some 2), none, (.q (.mov (.k (.bool false))))⟩] [1]) (
  .seq (
  .reg [⟨(some 4), none, (.q (.fld 4 4 (.t 1)))⟩,
    ⟨(some 5), none, (.rd (.ld false 1 (.t 4)))⟩,
    ⟨(some 6), none, (.q (.mov (.t 5)))⟩,
    ⟨(some 7), (some (6, false)), (.q (.fld 3 3 (.t 1)))⟩,
    ⟨(some 8), (some (6, false)), (.rd (.ld false 1 (.t 7)))⟩,
    ⟨(some 9), (some (6, false)), (.q (.bin .eql 3 (.t 8) (.k (.int .i64 0))))⟩,
    ⟨(some 10), (some (6, false)), (.q (.mov (.t 9)))⟩,
    ⟨(some 11), (some (10, true)), (.q (.fld 5 5 (.t 1)))⟩,
    ⟨(some 12), (some (10, true)), (.rd (.ld false 1 (.t 11)))⟩,
    ⟨(some 13), (some (10, true)), (.q (.bin .eql 39 (.t 12) (.k (.int .u64 0))))⟩,
    ⟨(some 14), (some (6, false)), (.q (.pick (.t 10) (.t 13) (.k (.bool false))))⟩,
    ⟨(some 15), none, (.q (.pick (.t 6) (.k (.bool true)) (.t 14)))⟩,
    ⟨(some 3), none, (.q (.mov (.t 15)))⟩] [1, 3]) (
  .seq (
  .reg [⟨(some 16), none, (.q (.fld 0 0 (.t 1)))⟩,
    ⟨(some 17), none, (.rd (.ld false 1 (.t 16)))⟩,
    ⟨(some 18), none, (.ac (.callf 125 [(.t 17), (.k (.int .i64 1)), (.k (.int .i64 6))]))⟩,
    ⟨(some 19), none, (.q (.mov (.t 18)))⟩,
    ⟨(some 20), (some (19, true)), (.q (.fld 1 1 (.t 1)))⟩,
    ⟨(some 21), (some (19, true)), (.rd (.ld false 1 (.t 20)))⟩,
    ⟨(some 22), (some (19, true)), (.ac (.callf 125 [(.t 21), (.k (.int .i64 0)), (.k (.int .i64 7))]))⟩,
    ⟨(some 23), none, (.q (.pick (.t 19) (.t 22) (.k (.bool false))))⟩,
    ⟨(some 24), none, (.q (.mov (.t 23)))⟩,
    ⟨(some 25), (some (24, true)), (.q (.fld 2 2 (.t 1)))⟩,
    ⟨(some 26), (some (24, true)), (.rd (.ld false 1 (.t 25)))⟩,
    ⟨(some 27), (some (24, true)), (.ac (.callf 125 [(.t 26), (.k (.int .i64 0)), (.k (.int .i64 65535))]))⟩,
    ⟨(some 28), none, (.q (.pick (.t 24) (.t 27) (.k (.bool false))))⟩,
    ⟨(some 29), none, (.q (.mov (.t 28)))⟩,
    ⟨(some 30), (some (29, true)), (.q (.fld 3 3 (.t 1)))⟩,
    ⟨(some 31), (some (29, true)), (.rd (.ld false 1 (.t 30)))⟩,
    ⟨(some 32), (some (29, true)), (.ac (.callf 125 [(.t 31), (.k (.int .i64 0)), (.k (.int .i64 65535))]))⟩,
    ⟨(some 33), none, (.q (.pick (.t 29) (.t 32) (.k (.bool false))))⟩,
    ⟨(some 34), none, (.q (.mov (.t 33)))⟩,
    ⟨(some 35), (some (34, true)), (.q (.mov (.t 3)))⟩,
    ⟨(some 36), none, (.q (.pick (.t 34) (.t 35) (.k (.bool false))))⟩,
    ⟨(some 2), none, (.q (.mov (.t 36)))⟩] [1, 2]) (
  .ret))),
  [.tmp 2], [1]⟩
noncomputable def g122 : HFn Tryz.prog := ⟨r122, fun K => wslow Tryz.prog K r122.code, fun _ _ hK => wslow_fits hK _ (by decide +kernel)⟩
theorem c122 : chkF Tryz.prog Tryz.f122 r122 = true := by decide +kernel

/-! doubletake/packet.Same -/
def o123n0 : List RI := [⟨(some 2), none, (.al (.box (.t 0)))⟩, ⟨(some 3), none, (.al (.box (.t 1)))⟩, ⟨(some 4), none, (.q (.mov (.k (.bool false))))⟩]
noncomputable def b123n0 (K : KTC) (k : KS) (a0 a1 : AV) (c : KN) (p : KV) : Kr :=
  pAl (evAl [(0, a0)] k.nx (.box (.t 0))) k fun v0 k0 =>
  pAl (evAl [(1, a1)] k0.nx (.box (.t 1))) k0 fun v1 k1 =>
  c [(2, v0), (3, v1)] k1
theorem e123n0 (K : KTC) (k : KS) (a0 a1 : AV) (c : KN) (p : KV) : b123n0 K k a0 a1 c p = wReg Tryz.prog K [2, 3] o123n0 [(0, a0), (1, a1)] k c p := by unfold b123n0; kernel_rfl
noncomputable def s123n0 (K : KTC) (e : Env) (k : KS) (c : KN) (p : KV) : Kr := gt e 0 fun a0 => gt e 1 fun a1 => b123n0 K k a0 a1 c p
theorem p123n0 (K : KTC) (K' : KT) (hK : CSound K K') : FitsC Tryz.prog K' (.reg (s123n0 K)) (.reg o123n0 [2, 3]) := fun e k c p y h => by
  obtain ⟨a0, h0, h⟩ := gt_some h
  obtain ⟨a1, h1, h⟩ := gt_some h
  exact wreg_fit hK (by decide +kernel) (keep_cons h0 (keep_cons h1 (keep_nil))) (e123n0 K k a0 a1 c p) h
def o123n1 : List RI := [⟨(some 7), none, (.q (.fld 0 0 (.t 2)))⟩, ⟨(some 8), none, (.rd (.ld false 1 (.t 7)))⟩, ⟨(some 9), none, (.q (.fld 0 0 (.t 3)))⟩, ⟨(some 10), none, (.rd (.ld false 1 (.t 9)))⟩, ⟨(some 11), none, (.q (.bin .eql 3 (.t 8) (.t 10)))⟩, ⟨(some 12), none, (.q (.mov (.t 11)))⟩, ⟨(some 13), (some (12, true)), (.q (.fld 1 1 (.t 2)))⟩, ⟨(some 14), (some (12, true)), (.rd (.ld false 1 (.t 13)))⟩, ⟨(some 15), (some (12, true)), (.q (.fld 1 1 (.t 3)))⟩, ⟨(some 16), (some (12, true)), (.rd (.ld false 1 (.t 15)))⟩, ⟨(some 17), (some (12, true)), (.q (.bin .eql 3 (.t 14) (.t 16)))⟩, ⟨(some 18), none, (.q (.pick (.t 12) (.t 17) (.k (.bool false))))⟩, ⟨(some 19), none, (.q (.mov (.t 18)))⟩, ⟨(some 20), (some (19, true)), (.q (.fld 2 2 (.t 2)))⟩, ⟨(some 21), (some (19, true)), (.rd (.ld false 1 (.t 20)))⟩, ⟨(some 22), (some (19, true)), (.q (.fld 2 2 (.t 3)))⟩, ⟨(some 23), (some (19, true)), (.rd (.ld false 1 (.t 22)))⟩, ⟨(some 24), (some (19, true)), (.q (.bin .eql 3 (.t 21) (.t 23)))⟩, ⟨(some 25), none, (.q (.pick (.t 19) (.t 24) (.k (.bool false))))⟩, ⟨(some 26), none, (.q (.mov (.t 25)))⟩, ⟨(some 27), (some (26, true)), (.q (.fld 3 3 (.t 2)))⟩, ⟨(some 28), (some (26, true)), (.rd (.ld false 1 (.t 27)))⟩, ⟨(some 29), (some (26, true)), (.q (.fld 3 3 (.t 3)))⟩, ⟨(some 30), (some (26, true)), (.rd (.ld false 1 (.t 29)))⟩, ⟨(some 31), (some (26, true)), (.q (.bin .eql 3 (.t 28) (.t 30)))⟩, ⟨(some 32), none, (.q (.pick (.t 26) (.t 31) (.k (.bool false))))⟩, ⟨(some 33), none, (.q (.mov (.t 32)))⟩, ⟨(some 34), (some (33, true)), (.q (.fld 4 4 (.t 2)))⟩, ⟨(some 35), (some (33, true)), (.rd (.ld false 1 (.t 34)))⟩, ⟨(some 36), (some (33, true)), (.q (.fld 4 4 (.t 3)))⟩, ⟨(some 37), (some (33, true)), (.rd (.ld false 1 (.t 36)))⟩, ⟨(some 38), (some (33, true)), (.q (.bin .eql 4 (.t 35) (.t 37)))⟩, ⟨(some 39), none, (.q (.pick (.t 33) (.t 38) (.k (.bool false))))⟩, ⟨(some 40), none, (.q (.mov (.t 39)))⟩, ⟨(some 41), (some (40, true)), (.q (.fld 5 5 (.t 2)))⟩, ⟨(some 42), (some (40, true)), (.rd (.ld false 1 (.t 41)))⟩, ⟨(some 43), (some (40, true)), (.q (.fld 5 5 (.t 3)))⟩, ⟨(some 44), (some (40, true)), (.rd (.ld false 1 (.t 43)))⟩, ⟨(some 45), (some (40, true)), (.q (.bin .eql 39 (.t 42) (.t 44)))⟩, ⟨(some 46), none, (.q (.pick (.t 40) (.t 45) (.k (.bool false))))⟩, ⟨(some 5), none, (.q (.mov (.t 46)))⟩]
def o123n2 : List RI := [⟨(some 47), none, (.q (.fld 10 10 (.t 2)))⟩, ⟨(some 48), none, (.rd (.ld false 1 (.t 47)))⟩, ⟨(some 49), none, (.q (.fld 10 10 (.t 3)))⟩, ⟨(some 50), none, (.rd (.ld false 1 (.t 49)))⟩, ⟨(some 51), none, (.ac (.callf 172 [(.t 48), (.t 50), (.fn 173)]))⟩, ⟨(some 6), none, (.q (.mov (.t 51)))⟩]
noncomputable def b123n2 (K : KTC) (k : KS) (a2 a3 a5 : AV) (c : KN) (p : KV) : Kr :=
  xFld 10 10 a2 fun v0 =>
  xLd k.t false 1 v0 fun v1 =>
  xFld 10 10 a3 fun v2 =>
  xLd k.t false 1 v2 fun v3 =>
  K 172 [v1, v3, (.func 173 [] [])] k (fun v4 k4 =>
  c [(2, a2), (3, a3), (5, a5), (6, v4)] k4) (p)
theorem e123n2 (K : KTC) (k : KS) (a2 a3 a5 : AV) (c : KN) (p : KV) : b123n2 K k a2 a3 a5 c p = wReg Tryz.prog K [2, 3, 5, 6] o123n2 [(2, a2), (3, a3), (5, a5)] k c p := by unfold b123n2; simp only [xLd_eq, xFld_eq]; kernel_rfl
noncomputable def s123n2 (K : KTC) (e : Env) (k : KS) (c : KN) (p : KV) : Kr := gt e 2 fun a2 => gt e 3 fun a3 => gt e 5 fun a5 => b123n2 K k a2 a3 a5 c p
theorem p123n2 (K : KTC) (K' : KT) (hK : CSound K K') : FitsC Tryz.prog K' (.reg (s123n2 K)) (.reg o123n2 [2, 3, 5, 6]) := fun e k c p y h => by
  obtain ⟨a2, h2, h⟩ := gt_some h
  obtain ⟨a3, h3, h⟩ := gt_some h
  obtain ⟨a5, h5, h⟩ := gt_some h
  exact wreg_fit hK (by decide +kernel) (keep_cons h2 (keep_cons h3 (keep_cons h5 (keep_nil)))) (e123n2 K k a2 a3 a5 c p) h
def o123n3 : List RI := [⟨(some 52), none, (.q (.mov (.t 5)))⟩, ⟨(some 53), none, (.q (.mov (.t 52)))⟩, ⟨(some 54), (some (53, true)), (.q (.fld 6 6 (.t 2)))⟩, ⟨(some 55), (some (53, true)), (.rd (.ld false 1 (.t 54)))⟩, ⟨(some 56), (some (53, true)), (.q (.fld 6 6 (.t 3)))⟩, ⟨(some 57), (some (53, true)), (.rd (.ld false 1 (.t 56)))⟩, ⟨(some 58), (some (53, true)), (.q (.bin .eql 3 (.t 55) (.t 57)))⟩, ⟨(some 59), none, (.q (.pick (.t 53) (.t 58) (.k (.bool false))))⟩, ⟨(some 60), none, (.q (.mov (.t 59)))⟩, ⟨(some 61), (some (60, true)), (.q (.fld 7 7 (.t 2)))⟩, ⟨(some 62), (some (60, true)), (.rd (.ld false 1 (.t 61)))⟩, ⟨(some 63), (some (60, true)), (.q (.fld 7 7 (.t 3)))⟩, ⟨(some 64), (some (60, true)), (.rd (.ld false 1 (.t 63)))⟩, ⟨(some 65), (some (60, true)), (.q (.bin .eql 3 (.t 62) (.t 64)))⟩, ⟨(some 66), none, (.q (.pick (.t 60) (.t 65) (.k (.bool false))))⟩, ⟨(some 67), none, (.q (.mov (.t 66)))⟩, ⟨(some 68), (some (67, true)), (.q (.fld 8 8 (.t 2)))⟩, ⟨(some 69), (some (67, true)), (.rd (.ld false 1 (.t 68)))⟩, ⟨(some 70), (some (67, true)), (.q (.fld 8 8 (.t 3)))⟩, ⟨(some 71), (some (67, true)), (.rd (.ld false 1 (.t 70)))⟩, ⟨(some 72), (some (67, true)), (.ac (.callf 175 [(.t 69), (.t 71)]))⟩, ⟨(some 73), none, (.q (.pick (.t 67) (.t 72) (.k (.bool false))))⟩, ⟨(some 74), none, (.q (.mov (.t 73)))⟩, ⟨(some 75), (some (74, true)), (.q (.fld 9 9 (.t 2)))⟩, ⟨(some 76), (some (74, true)), (.rd (.ld false 1 (.t 75)))⟩, ⟨(some 77), (some (74, true)), (.q (.fld 9 9 (.t 3)))⟩, ⟨(some 78), (some (74, true)), (.rd (.ld false 1 (.t 77)))⟩, ⟨(some 79), (some (74, true)), (.q (.bin .eql 3 (.t 76) (.t 78)))⟩, ⟨(some 80), none, (.q (.pick (.t 74) (.t 79) (.k (.bool false))))⟩, ⟨(some 81), none, (.q (.mov (.t 80)))⟩, ⟨(some 82), (some (81, true)), (.q (.mov (.t 6)))⟩, ⟨(some 83), none, (.q (.pick (.t 81) (.t 82) (.k (.bool false))))⟩, ⟨(some 84), none, (.q (.mov (.t 83)))⟩, ⟨(some 85), (some (84, true)), (.q (.fld 11 11 (.t 2)))⟩, ⟨(some 86), (some (84, true)), (.rd (.ld false 1 (.t 85)))⟩, ⟨(some 87), (some (84, true)), (.q (.fld 11 11 (.t 3)))⟩, ⟨(some 88), (some (84, true)), (.rd (.ld false 1 (.t 87)))⟩, ⟨(some 89), (some (84, true)), (.q (.bin .eql 3 (.t 86) (.t 88)))⟩, ⟨(some 90), none, (.q (.pick (.t 84) (.t 89) (.k (.bool false))))⟩, ⟨(some 91), none, (.q (.mov (.t 90)))⟩, ⟨(some 92), (some (91, true)), (.q (.fld 12 12 (.t 2)))⟩, ⟨(some 93), (some (91, true)), (.rd (.ld false 1 (.t 92)))⟩, ⟨(some 94), (some (91, true)), (.q (.fld 12 12 (.t 3)))⟩, ⟨(some 95), (some (91, true)), (.rd (.ld false 1 (.t 94)))⟩, ⟨(some 96), (some (91, true)), (.q (.bin .eql 3 (.t 93) (.t 95)))⟩, ⟨(some 97), none, (.q (.pick (.t 91) (.t 96) (.k (.bool false))))⟩, ⟨(some 4), none, (.q (.mov (.t 97)))⟩]
def r123 : RFn := ⟨2, .seq (.reg o123n0 [2, 3]) (.seq (.reg o123n1 [2, 3, 5]) (.seq (.reg o123n2 [2, 3, 5, 6]) (.seq (.reg o123n3 [2, 3, 4]) (.ret)))), [.tmp 4], [2, 3]⟩
noncomputable def q123 (K : KTC) : FK := .seq (.reg (s123n0 K)) (.seq (.reg fun e k c p => wReg Tryz.prog K [2, 3, 5] o123n1 e k c p) (.seq (.reg (s123n2 K)) (.seq (.reg fun e k c p => wReg Tryz.prog K [2, 3, 4] o123n3 e k c p) (.ret))))
theorem ok123 (K : KTC) (K' : KT) (hK : CSound K K') : FitsC Tryz.prog K' (q123 K) r123.code := hs (p123n0 K _ hK) (hs (wslow_reg hK) (hs (p123n2 K _ hK) (hs (wslow_reg hK) (hr))))
noncomputable def g123 : HFn Tryz.prog := ⟨r123, q123, ok123⟩
theorem c123 : chkF Tryz.prog Tryz.f123 r123 = true := by decide +kernel

/-- doubletake/packet.own -/
def r124 : RFn := ⟨1,
  .seq (
  .reg [⟨(some 1), none, (.al (.box (.t 0)))⟩,
    ⟨(some 2), none, (.al (.alloc (.agg [1, 1, 1, 1, 1, 1, 1, 1, 1, 1, 1, 1, 1] [(.sc (.int .i64 0)), (.sc (.int .i64 0)), (.sc (.int .i64 0)), (.sc (.int .i64 0)), (.sc (.bool false)), (.sc (.int .u64 0)), (.sc (.int .i64 0)), (.sc (.int .i64 0)), (.slice none 0), (.sc (.int .i64 0)), (.slice none 0), (.sc (.int .i64 0)), (.sc (.int .i64 0))])))⟩] [1, 2]) (
  .seq (
  .reg [⟨(some 4), none, (.q (.fld 0 0 (.t 1)))⟩,
    ⟨(some 5), none, (.rd (.ld false 1 (.t 4)))⟩,
    ⟨(some 6), none, (.q (.fld 1 1 (.t 1)))⟩,
    ⟨(some 7), none, (.rd (.ld false 1 (.t 6)))⟩,
    ⟨(some 8), none, (.q (.fld 2 2 (.t 1)))⟩,
    ⟨(some 9), none, (.rd (.ld false 1 (.t 8)))⟩,
    ⟨(some 10), none, (.q (.fld 3 3 (.t 1)))⟩,
    ⟨(some 11), none, (.rd (.ld false 1 (.t 10)))⟩,
    ⟨(some 12), none, (.q (.fld 4 4 (.t 1)))⟩,
    ⟨(some 13), none, (.rd (.ld false 1 (.t 12)))⟩,
    ⟨(some 14), none, (.q (.fld 5 5 (.t 1)))⟩,
    ⟨(some 15), none, (.rd (.ld false 1 (.t 14)))⟩,
    ⟨(some 16), none, (.q (.bld (.agg [1, 1, 1, 1, 1, 1, 1, 1, 1, 1, 1, 1, 1] [(.sc (.int .i64 0)), (.sc (.int .i64 0)), (.sc (.int .i64 0)), (.sc (.int .i64 0)), (.sc (.bool false)), (.sc (.int .u64 0)), (.sc (.int .i64 0)), (.sc (.int .i64 0)), (.slice none 0), (.sc (.int .i64 0)), (.slice none 0), (.sc (.int .i64 0)), (.sc (.int .i64 0))]) [(0, (.t 5)), (1, (.t 7)), (2, (.t 9)), (3, (.t 11)), (4, (.t 13)), (5, (.t 15))]))⟩,
    ⟨(some 3), none, (.al (.alloc (.agg [1, 1, 1, 1, 1, 1, 1, 1, 1, 1, 1, 1, 1] [(.sc (.int .i64 0)), (.sc (.int .i64 0)), (.sc (.int .i64 0)), (.sc (.int .i64 0)), (.sc (.bool false)), (.sc (.int .u64 0)), (.sc (.int .i64 0)), (.sc (.int .i64 0)), (.slice none 0), (.sc (.int .i64 0)), (.slice none 0), (.sc (.int .i64 0)), (.sc (.int .i64 0))])))⟩,
    ⟨none, none, (.ac (.st 13 (.t 3) (.t 16)))⟩] [1, 2, 3]) (
  .seq (
  .seq (
  .reg [⟨(some 17), none, (.q (.fld 0 0 (.t 1)))⟩,
    ⟨(some 18), none, (.rd (.ld false 1 (.t 17)))⟩] [1, 2, 3, 18]) (
  .block 0 (
   .seq (
   .reg [⟨(some 20), none, (.q (.bin .eql 3 (.t 18) (.k (.int .i64 2))))⟩,
     ⟨(some 19), none, (.q (.mov (.t 20)))⟩] [1, 2, 3, 18, 19]) (
   .cond (.t 19) (
    .draw [(0, ⟨(some 21), none, (.q (.fld 6 6 (.t 1)))⟩, 0),
      (1, ⟨(some 22), none, (.rd (.ld false 1 (.t 21)))⟩, 0),
      (6, ⟨(some 27), none, (.q (.fld 6 6 (.t 3)))⟩, 0),
      (7, ⟨none, none, (.ac (.st 1 (.t 27) (.t 22)))⟩, 0),
      (2, ⟨(some 23), none, (.q (.fld 7 7 (.t 1)))⟩, 1),
      (3, ⟨(some 24), none, (.rd (.ld false 1 (.t 23)))⟩, 1),
      (8, ⟨(some 28), none, (.q (.fld 7 7 (.t 3)))⟩, 0),
      (9, ⟨none, none, (.ac (.st 1 (.t 28) (.t 24)))⟩, 0),
      (4, ⟨(some 25), none, (.q (.fld 8 8 (.t 1)))⟩, 2),
      (5, ⟨(some 26), none, (.rd (.ld false 1 (.t 25)))⟩, 2),
      (10, ⟨(some 29), none, (.q (.fld 8 8 (.t 3)))⟩, 0),
      (11, ⟨none, none, (.ac (.st 1 (.t 29) (.t 26)))⟩, 0)] [1, 2, 3]) (
    .seq (
    .reg [⟨(some 31), none, (.q (.bin .eql 3 (.t 18) (.k (.int .i64 3))))⟩,
      ⟨(some 30), none, (.q (.mov (.t 31)))⟩] [1, 2, 3, 18, 30]) (
    .cond (.t 30) (
     .draw [(0, ⟨(some 32), none, (.q (.fld 7 7 (.t 1)))⟩, 0),
       (1, ⟨(some 33), none, (.rd (.ld false 1 (.t 32)))⟩, 0),
       (6, ⟨(some 38), none, (.q (.fld 7 7 (.t 3)))⟩, 0),
       (7, ⟨none, none, (.ac (.st 1 (.t 38) (.t 33)))⟩, 0),
       (2, ⟨(some 34), none, (.q (.fld 9 9 (.t 1)))⟩, 1),
       (3, ⟨(some 35), none, (.rd (.ld false 1 (.t 34)))⟩, 1),
       (8, ⟨(some 39), none, (.q (.fld 9 9 (.t 3)))⟩, 0),
       (9, ⟨none, none, (.ac (.st 1 (.t 39) (.t 35)))⟩, 0),
       (4, ⟨(some 36), none, (.q (.fld 10 10 (.t 1)))⟩, 2),
       (5, ⟨(some 37), none, (.rd (.ld false 1 (.t 36)))⟩, 2),
       (10, ⟨(some 40), none, (.q (.fld 10 10 (.t 3)))⟩, 0),
       (11, ⟨none, none, (.ac (.st 1 (.t 40) (.t 37)))⟩, 0)] [1, 2, 3]) (
     .seq (
     .reg [⟨(some 42), none, (.q (.bin .eql 3 (.t 18) (.k (.int .i64 4))))⟩,
       ⟨(some 41), none, (.q (.mov (.t 42)))⟩] [1, 2, 3, 41]) (
     .cond (.t 41) (
      .draw [(0, ⟨(some 43), none, (.q (.fld 11 11 (.t 1)))⟩, 0),
        (1, ⟨(some 44), none, (.rd (.ld false 1 (.t 43)))⟩, 0),
        (4, ⟨(some 47), none, (.q (.fld 11 11 (.t 3)))⟩, 0),
        (5, ⟨none, none, (.ac (.st 1 (.t 47) (.t 44)))⟩, 0),
        (2, ⟨(some 45), none, (.q (.fld 12 12 (.t 1)))⟩, 1),
        (3, ⟨(some 46), none, (.rd (.ld false 1 (.t 45)))⟩, 1),
        (6, ⟨(some 48), none, (.q (.fld 12 12 (.t 3)))⟩, 0),
        (7, ⟨none, none, (.ac (.st 1 (.t 48) (.t 46)))⟩, 0)] [1, 2, 3]) (
      .skip))))))))) (
  .seq (
  .reg [⟨(some 49), none, (.rd (.ld true 13 (.t 3)))⟩,
    ⟨none, none, (.ac (.st 13 (.t 2) (.t 49)))⟩] [1, 2, 3]) (
  .ret)))),
  [.cell 2 true 13], [1, 2, 3]⟩
noncomputable def g124 : HFn Tryz.prog := ⟨r124, fun K => wslow Tryz.prog K r124.code, fun _ _ hK => wslow_fits hK _ (by decide +kernel)⟩
theorem c124 : chkF Tryz.prog Tryz.f124 r124 = true := by decide +kernel

/-! doubletake/packet.within -/
def o125n0 : List RI := [⟨(some 6), none, (.q (.mov (.k (.bool false))))⟩]
noncomputable def b125n0 (K : KTC) (k : KS) (a0 a1 a2 : AV) (c : KN) (p : KV) : Kr :=
  c [(0, a0), (1, a1), (2, a2)] k
theorem e125n0 (K : KTC) (k : KS) (a0 a1 a2 : AV) (c : KN) (p : KV) : b125n0 K k a0 a1 a2 c p = wReg Tryz.prog K [0, 1, 2] o125n0 [(0, a0), (1, a1), (2, a2)] k c p := by unfold b125n0; kernel_rfl
noncomputable def s125n0 (K : KTC) (e : Env) (k : KS) (c : KN) (p : KV) : Kr := gt e 0 fun a0 => gt e 1 fun a1 => gt e 2 fun a2 => b125n0 K k a0 a1 a2 c p
theorem p125n0 (K : KTC) (K' : KT) (hK : CSound K K') : FitsC Tryz.prog K' (.reg (s125n0 K)) (.reg o125n0 [0, 1, 2]) := fun e k c p y h => by
  obtain ⟨a0, h0, h⟩ := gt_some h
  obtain ⟨a1, h1, h⟩ := gt_some h
  obtain ⟨a2, h2, h⟩ := gt_some h
  exact wreg_fit hK (by decide +kernel) (keep_cons h0 (keep_cons h1 (keep_cons h2 (keep_nil)))) (e125n0 K k a0 a1 a2 c p) h
def o125n1 : List RI := [⟨(some 7), none, (.q (.mov (.t 0)))⟩, ⟨(some 8), none, (.q (.mov (.t 1)))⟩, ⟨(some 9), none, (.q (.bin .geq 3 (.t 7) (.t 8)))⟩, ⟨(some 10), none, (.q (.mov (.t 9)))⟩, ⟨(some 11), (some (10, true)), (.q (.mov (.t 0)))⟩, ⟨(some 12), (some (10, true)), (.q (.mov (.t 2)))⟩, ⟨(some 13), (some (10, true)), (.q (.bin .leq 3 (.t 11) (.t 12)))⟩, ⟨(some 14), none, (.q (.pick (.t 10) (.t 13) (.k (.bool false))))⟩, ⟨(some 6), none, (.q (.mov (.t 14)))⟩]
def r125 : RFn := ⟨3, .seq (.reg o125n0 [0, 1, 2]) (.seq (.reg o125n1 [6]) (.ret)), [.tmp 6], []⟩
noncomputable def q125 (K : KTC) : FK := .seq (.reg (s125n0 K)) (.seq (.reg fun e k c p => wReg Tryz.prog K [6] o125n1 e k c p) (.ret))
theorem ok125 (K : KTC) (K' : KT) (hK : CSound K K') : FitsC Tryz.prog K' (q125 K) r125.code := hs (p125n0 K _ hK) (hs (wslow_reg hK) (hr))
noncomputable def g125 : HFn Tryz.prog := ⟨r125, q125, ok125⟩
theorem c125 : chkF Tryz.prog Tryz.f125 r125 = true := by decide +kernel

/-- slices.ContainsFunc[[]doubletake/api.Input,doubletake/api.Input] -/
def r126 : RFn := ⟨2,
  .seq (
  .reg [⟨(some 4), none, (.q (.mov (.k (.bool false))))⟩] [0, 1]) (
  .seq (
  .reg [⟨(some 5), none, (.q (.mov (.t 0)))⟩,
    ⟨(some 6), none, (.q (.mov (.t 1)))⟩,
    ⟨(some 7), none, (.ac (.callf 176 [(.t 5), (.t 6)]))⟩,
    ⟨(some 8), none, (.q (.bin .geq 3 (.t 7) (.k (.int .i64 0))))⟩,
    ⟨(some 4), none, (.q (.mov (.t 8)))⟩] [4]) (
  .ret)),
  [.tmp 4], []⟩
noncomputable def g126 : HFn Tryz.prog := ⟨r126, fun K => wslow Tryz.prog K r126.code, fun _ _ hK => wslow_fits hK _ (by decide +kernel)⟩
theorem c126 : chkF Tryz.prog Tryz.f126 r126 = true := by decide +kernel

/-- doubletake/packet.Right$1 -/
def r127 : RFn := ⟨1,
  .seq (
  .reg [⟨(some 1), none, (.al (.box (.t 0)))⟩,
    ⟨(some 2), none, (.q (.mov (.k (.bool false))))⟩] [1]) (
  .seq (
  .reg [⟨(some 3), none, (.rd (.ld true 3 (.t 1)))⟩,
    ⟨(some 4), none, (.ac (.callf 128 [(.t 3)]))⟩,
    ⟨(some 5), none, (.q (.un .not (.t 4)))⟩,
    ⟨(some 2), none, (.q (.mov (.t 5)))⟩] [1, 2]) (
  .ret)),
  [.tmp 2], [1]⟩
noncomputable def g127 : HFn Tryz.prog := ⟨r127, fun K => wslow Tryz.prog K r127.code, fun _ _ hK => wslow_fits hK _ (by decide +kernel)⟩
theorem c127 : chkF Tryz.prog Tryz.f127 r127 = true := by decide +kernel

/-- doubletake/packet.rightInput -/
def r128 : RFn := ⟨1,
  .seq (
  .reg [⟨(some 1), none, (.al (.box (.t 0)))⟩,
    ⟨(some 2), none, (.q (.mov (.k (.bool false))))⟩] [1]) (
  .seq (
  .reg [⟨(some 3), none, (.q (.fld 0 0 (.t 1)))⟩,
    ⟨(some 4), none, (.rd (.ld false 1 (.t 3)))⟩,
    ⟨(some 5), none, (.ac (.callf 125 [(.t 4), (.k (.int .i64 0)), (.k (.int .i64 255))]))⟩,
    ⟨(some 6), none, (.q (.mov (.t 5)))⟩,
    ⟨(some 7), (some (6, true)), (.q (.fld 1 1 (.t 1)))⟩,
    ⟨(some 8), (some (6, true)), (.rd (.ld false 1 (.t 7)))⟩,
    ⟨(some 9), (some (6, true)), (.ac (.callf 125 [(.t 8), (.k (.int .i64 (-64))), (.k (.int .i64 64))]))⟩,
    ⟨(some 10), none, (.q (.pick (.t 6) (.t 9) (.k (.bool false))))⟩,
    ⟨(some 11), none, (.q (.mov (.t 10)))⟩,
    ⟨(some 12), (some (11, true)), (.q (.fld 2 2 (.t 1)))⟩,
    ⟨(some 13), (some (11, true)), (.rd (.ld false 1 (.t 12)))⟩,
    ⟨(some 14), (some (11, true)), (.ac (.callf 125 [(.t 13), (.k (.int .i64 (-64))), (.k (.int .i64 64))]))⟩,
    ⟨(some 15), none, (.q (.pick (.t 11) (.t 14) (.k (.bool false))))⟩,
    ⟨(some 2), none, (.q (.mov (.t 15)))⟩] [1, 2]) (
  .ret)),
  [.tmp 2], [1]⟩
noncomputable def g128 : HFn Tryz.prog := ⟨r128, fun K => wslow Tryz.prog K r128.code, fun _ _ hK => wslow_fits hK _ (by decide +kernel)⟩
theorem c128 : chkF Tryz.prog Tryz.f128 r128 = true := by decide +kernel

/-- doubletake/packet.rightRows -/
def r129 : RFn := ⟨2,
  .seq (
  .reg [⟨(some 4), none, (.q (.mov (.k (.bool false))))⟩] [0, 1]) (
  .seq (
  .seq (
  .reg [⟨(some 7), none, (.q (.mov (.t 0)))⟩,
    ⟨(some 8), none, (.q (.len false (.t 7)))⟩,
    ⟨(some 9), none, (.q (.mov (.k (.int .i64 0))))⟩] [0, 1, 7, 8, 9]) (
  .block 0 (
   .loop [0, 1, 7, 8, 9] (
    .seq (
    .reg [⟨(some 10), none, (.q (.bin .lss 3 (.t 9) (.t 8)))⟩] [0, 1, 7, 8, 9, 10]) (
    .seq (
    .cond (.t 10) (
     .skip) (
     .exit 0)) (
    .seq (
    .block 1 (
     .seq (
     .reg [⟨(some 11), none, (.q (.ixs 1 (.t 7) (.t 9)))⟩,
       ⟨(some 12), none, (.rd (.ld false 1 (.t 11)))⟩,
       ⟨(some 6), none, (.q (.mov (.t 12)))⟩] [0, 1, 6, 7, 8, 9]) (
     .seq (
     .reg [⟨(some 13), none, (.q (.mov (.t 6)))⟩,
       ⟨(some 14), none, (.q (.len false (.t 13)))⟩,
       ⟨(some 15), none, (.q (.mov (.t 1)))⟩,
       ⟨(some 16), none, (.q (.bin .neq 3 (.t 14) (.t 15)))⟩,
       ⟨(some 17), none, (.q (.mov (.t 16)))⟩,
       ⟨(some 18), (some (17, false)), (.q (.mov (.t 6)))⟩,
       ⟨(some 19), (some (17, false)), (.ac (.callf 177 [(.t 18), (.fn 178)]))⟩,
       ⟨(some 20), none, (.q (.pick (.t 17) (.k (.bool true)) (.t 19)))⟩] [0, 1, 7, 8, 9, 20]) (
     .cond (.t 20) (
      .seq (
      .reg [⟨(some 4), none, (.q (.mov (.k (.bool false))))⟩] [4]) (
      .ret)) (
      .skip))))) (
    .reg [⟨(some 21), none, (.q (.bin .add 3 (.t 9) (.k (.int .i64 1))))⟩,
      ⟨(some 9), none, (.q (.mov (.t 21)))⟩] [0, 1, 7, 8, 9]))))))) (
  .seq (
  .reg [⟨(some 22), none, (.q (.mov (.t 0)))⟩,
    ⟨(some 23), none, (.q (.len false (.t 22)))⟩,
    ⟨(some 24), none, (.q (.bin .leq 3 (.t 23) (.k (.int .i64 8))))⟩,
    ⟨(some 25), none, (.q (.mov (.t 24)))⟩,
    ⟨(some 26), (some (25, true)), (.q (.mov (.t 1)))⟩,
    ⟨(some 27), (some (25, true)), (.ac (.callf 125 [(.t 26), (.k (.int .i64 1)), (.k (.int .i64 8))]))⟩,
    ⟨(some 28), none, (.q (.pick (.t 25) (.t 27) (.k (.bool false))))⟩,
    ⟨(some 4), none, (.q (.mov (.t 28)))⟩] [4]) (
  .ret))),
  [.tmp 4], []⟩
noncomputable def g129 : HFn Tryz.prog := ⟨r129, fun K => wslow Tryz.prog K r129.code, fun _ _ hK => wslow_fits hK _ (by decide +kernel)⟩
theorem c129 : chkF Tryz.prog Tryz.f129 r129 = true := by decide +kernel

/-- doubletake/tag.Close -/
def r130 : RFn := ⟨2,
  .seq (
  .reg [⟨(some 4), none, (.q (.mov .nils))⟩] [0, 1]) (
  .seq (
  .reg [⟨(some 6), none, (.q (.mov (.t 0)))⟩,
    ⟨(some 7), none, (.q (.mov (.t 1)))⟩,
    ⟨(some 8), none, (.ac (.callf 112 [(.t 6), (.t 7)]))⟩,
    ⟨(some 5), none, (.q (.mov (.t 8)))⟩] [1, 5]) (
  .seq (
  .reg [⟨(some 9), none, (.q (.mov (.t 1)))⟩,
    ⟨(some 10), none, (.ac (.callf 154 [(.t 9)]))⟩,
    ⟨(some 11), none, (.q (.mov (.t 5)))⟩,
    ⟨(some 12), none, (.q (.bin .shr 3 (.t 11) (.k (.int .u64 24))))⟩,
    ⟨(some 13), none, (.q (.conv 3 5 (.t 12)))⟩,
    ⟨(some 14), none, (.q (.mov (.t 5)))⟩,
    ⟨(some 15), none, (.q (.bin .shr 3 (.t 14) (.k (.int .u64 16))))⟩,
    ⟨(some 16), none, (.q (.conv 3 5 (.t 15)))⟩,
    ⟨(some 17), none, (.q (.mov (.t 5)))⟩,
    ⟨(some 18), none, (.q (.bin .shr 3 (.t 17) (.k (.int .u64 8))))⟩,
    ⟨(some 19), none, (.q (.conv 3 5 (.t 18)))⟩,
    ⟨(some 20), none, (.q (.mov (.t 5)))⟩,
    ⟨(some 21), none, (.q (.conv 3 5 (.t 20)))⟩,
    ⟨(some 22), none, (.al (.bldS 1 4 (.sc (.int .u8 0)) [(0, (.t 13)), (1, (.t 16)), (2, (.t 19)), (3, (.t 21))]))⟩,
    ⟨(some 23), none, (.ac (.app true 1 1 (.t 10) (.t 22)))⟩,
    ⟨(some 4), none, (.q (.mov (.t 23)))⟩] [4]) (
  .ret))),
  [.tmp 4], []⟩
noncomputable def g130 : HFn Tryz.prog := ⟨r130, fun K => wslow Tryz.prog K r130.code, fun _ _ hK => wslow_fits hK _ (by decide +kernel)⟩
theorem c130 : chkF Tryz.prog Tryz.f130 r130 = true := by decide +kernel

/-! doubletake/packet.laid -/
def o131n0 : List RI := [⟨(some 1), none, (.al (.box (.t 0)))⟩, ⟨(some 2), none, (.q (.mov .nils))⟩]
noncomputable def b131n0 (K : KTC) (k : KS) (a0 : AV) (x : Env) (c : KN) (p : KV) : Kr :=
  pAl (evAl [(0, a0)] k.nx (.box (.t 0))) k fun v0 k0 =>
  c (Env.keep ([(1, v0)] ++ x) [1, 5]) k0
theorem e131n0 (K : KTC) (k : KS) (a0 : AV) (x : Env) (c : KN) (p : KV) : b131n0 K k a0 x c p = wReg Tryz.prog K [1, 5] o131n0 ([(0, a0)] ++ x) k c p := by unfold b131n0; kernel_rfl
noncomputable def s131n0 (K : KTC) (e : Env) (k : KS) (c : KN) (p : KV) : Kr := gt e 0 fun a0 => b131n0 K k a0 (e.keep [5]) c p
theorem p131n0 (K : KTC) (K' : KT) (hK : CSound K K') : FitsC Tryz.prog K' (.reg (s131n0 K)) (.reg o131n0 [1, 5]) := fun e k c p y h => by
  obtain ⟨a0, h0, h⟩ := gt_some h
  exact wreg_fit hK (by decide +kernel) (keep_cons h0 (rfl)) (e131n0 K k a0 (e.keep [5]) c p) h
def o131n1 : List RI := [⟨(some 6), none, (.ac (.callf 108 []))⟩, ⟨(some 3), none, (.q (.mov (.t 6)))⟩]
noncomputable def b131n1 (K : KTC) (k : KS) (a1 : AV) (x : Env) (c : KN) (p : KV) : Kr :=
  K 108 [] k (fun v0 k0 =>
  c (Env.keep ([(1, a1), (3, v0)] ++ x) [1, 3, 5]) k0) (p)
theorem e131n1 (K : KTC) (k : KS) (a1 : AV) (x : Env) (c : KN) (p : KV) : b131n1 K k a1 x c p = wReg Tryz.prog K [1, 3, 5] o131n1 ([(1, a1)] ++ x) k c p := by unfold b131n1; kernel_rfl
noncomputable def s131n1 (K : KTC) (e : Env) (k : KS) (c : KN) (p : KV) : Kr := gt e 1 fun a1 => b131n1 K k a1 (e.keep [5]) c p
theorem p131n1 (K : KTC) (K' : KT) (hK : CSound K K') : FitsC Tryz.prog K' (.reg (s131n1 K)) (.reg o131n1 [1, 3, 5]) := fun e k c p y h => by
  obtain ⟨a1, h1, h⟩ := gt_some h
  exact wreg_fit hK (by decide +kernel) (keep_cons h1 (rfl)) (e131n1 K k a1 (e.keep [5]) c p) h
def o131n2 : List RI := [⟨(some 7), none, (.q (.mov (.t 3)))⟩, ⟨(some 8), none, (.q (.fld 0 0 (.t 1)))⟩, ⟨(some 9), none, (.rd (.ld false 1 (.t 8)))⟩, ⟨(some 10), none, (.q (.conv 3 39 (.t 9)))⟩, ⟨(some 11), none, (.ac (.callf 109 [(.t 7), (.t 10), (.k (.int .i64 3))]))⟩]
noncomputable def b131n2 (K : KTC) (k : KS) (a3 a1 : AV) (x : Env) (c : KN) (p : KV) : Kr :=
  xFld 0 0 a1 fun v0 =>
  xLd k.t false 1 v0 fun v1 =>
  xConv 3 39 v1 fun v2 =>
  K 109 [a3, v2, (.sc (.int .i64 3))] k (fun v3 k3 =>
  c (Env.keep ([(1, a1), (3, a3)] ++ x) [1, 3, 5]) k3) (p)
theorem e131n2 (K : KTC) (k : KS) (a3 a1 : AV) (x : Env) (c : KN) (p : KV) : b131n2 K k a3 a1 x c p = wReg Tryz.prog K [1, 3, 5] o131n2 ([(3, a3), (1, a1)] ++ x) k c p := by unfold b131n2; simp only [xConv_eq, xLd_eq, xFld_eq]; kernel_rfl
noncomputable def s131n2 (K : KTC) (e : Env) (k : KS) (c : KN) (p : KV) : Kr := gt e 3 fun a3 => gt e 1 fun a1 => b131n2 K k a3 a1 (e.keep [5]) c p
theorem p131n2 (K : KTC) (K' : KT) (hK : CSound K K') : FitsC Tryz.prog K' (.reg (s131n2 K)) (.reg o131n2 [1, 3, 5]) := fun e k c p y h => by
  obtain ⟨a3, h3, h⟩ := gt_some h
  obtain ⟨a1, h1, h⟩ := gt_some h
  exact wreg_fit hK (by decide +kernel) (keep_cons h3 (keep_cons h1 (rfl))) (e131n2 K k a3 a1 (e.keep [5]) c p) h
def o131n3 : List RI := [⟨(some 12), none, (.q (.mov (.t 3)))⟩, ⟨(some 13), none, (.q (.fld 1 1 (.t 1)))⟩, ⟨(some 14), none, (.rd (.ld false 1 (.t 13)))⟩, ⟨(some 15), none, (.q (.conv 3 39 (.t 14)))⟩, ⟨(some 16), none, (.ac (.callf 109 [(.t 12), (.t 15), (.k (.int .i64 3))]))⟩]
noncomputable def b131n3 (K : KTC) (k : KS) (a3 a1 : AV) (x : Env) (c : KN) (p : KV) : Kr :=
  xFld 1 1 a1 fun v0 =>
  xLd k.t false 1 v0 fun v1 =>
  xConv 3 39 v1 fun v2 =>
  K 109 [a3, v2, (.sc (.int .i64 3))] k (fun v3 k3 =>
  c (Env.keep ([(1, a1), (3, a3)] ++ x) [1, 3, 5]) k3) (p)
theorem e131n3 (K : KTC) (k : KS) (a3 a1 : AV) (x : Env) (c : KN) (p : KV) : b131n3 K k a3 a1 x c p = wReg Tryz.prog K [1, 3, 5] o131n3 ([(3, a3), (1, a1)] ++ x) k c p := by unfold b131n3; simp only [xConv_eq, xLd_eq, xFld_eq]; kernel_rfl
noncomputable def s131n3 (K : KTC) (e : Env) (k : KS) (c : KN) (p : KV) : Kr := gt e 3 fun a3 => gt e 1 fun a1 => b131n3 K k a3 a1 (e.keep [5]) c p
theorem p131n3 (K : KTC) (K' : KT) (hK : CSound K K') : FitsC Tryz.prog K' (.reg (s131n3 K)) (.reg o131n3 [1, 3, 5]) := fun e k c p y h => by
  obtain ⟨a3, h3, h⟩ := gt_some h
  obtain ⟨a1, h1, h⟩ := gt_some h
  exact wreg_fit hK (by decide +kernel) (keep_cons h3 (keep_cons h1 (rfl))) (e131n3 K k a3 a1 (e.keep [5]) c p) h
def o131n4 : List RI := [⟨(some 17), none, (.q (.mov (.t 3)))⟩, ⟨(some 18), none, (.q (.fld 2 2 (.t 1)))⟩, ⟨(some 19), none, (.rd (.ld false 1 (.t 18)))⟩, ⟨(some 20), none, (.q (.conv 3 39 (.t 19)))⟩, ⟨(some 21), none, (.ac (.callf 109 [(.t 17), (.t 20), (.k (.int .i64 16))]))⟩]
noncomputable def b131n4 (K : KTC) (k : KS) (a3 a1 : AV) (x : Env) (c : KN) (p : KV) : Kr :=
  xFld 2 2 a1 fun v0 =>
  xLd k.t false 1 v0 fun v1 =>
  xConv 3 39 v1 fun v2 =>
  K 109 [a3, v2, (.sc (.int .i64 16))] k (fun v3 k3 =>
  c (Env.keep ([(1, a1), (3, a3)] ++ x) [1, 3, 5]) k3) (p)
theorem e131n4 (K : KTC) (k : KS) (a3 a1 : AV) (x : Env) (c : KN) (p : KV) : b131n4 K k a3 a1 x c p = wReg Tryz.prog K [1, 3, 5] o131n4 ([(3, a3), (1, a1)] ++ x) k c p := by unfold b131n4; simp only [xConv_eq, xLd_eq, xFld_eq]; kernel_rfl
noncomputable def s131n4 (K : KTC) (e : Env) (k : KS) (c : KN) (p : KV) : Kr := gt e 3 fun a3 => gt e 1 fun a1 => b131n4 K k a3 a1 (e.keep [5]) c p
theorem p131n4 (K : KTC) (K' : KT) (hK : CSound K K') : FitsC Tryz.prog K' (.reg (s131n4 K)) (.reg o131n4 [1, 3, 5]) := fun e k c p y h => by
  obtain ⟨a3, h3, h⟩ := gt_some h
  obtain ⟨a1, h1, h⟩ := gt_some h
  exact wreg_fit hK (by decide +kernel) (keep_cons h3 (keep_cons h1 (rfl))) (e131n4 K k a3 a1 (e.keep [5]) c p) h
def o131n5 : List RI := [⟨(some 22), none, (.q (.mov (.t 3)))⟩, ⟨(some 23), none, (.q (.fld 3 3 (.t 1)))⟩, ⟨(some 24), none, (.rd (.ld false 1 (.t 23)))⟩, ⟨(some 25), none, (.q (.conv 3 39 (.t 24)))⟩, ⟨(some 26), none, (.ac (.callf 109 [(.t 22), (.t 25), (.k (.int .i64 16))]))⟩]
noncomputable def b131n5 (K : KTC) (k : KS) (a3 a1 : AV) (x : Env) (c : KN) (p : KV) : Kr :=
  xFld 3 3 a1 fun v0 =>
  xLd k.t false 1 v0 fun v1 =>
  xConv 3 39 v1 fun v2 =>
  K 109 [a3, v2, (.sc (.int .i64 16))] k (fun v3 k3 =>
  c (Env.keep ([(1, a1), (3, a3)] ++ x) [1, 3, 5]) k3) (p)
theorem e131n5 (K : KTC) (k : KS) (a3 a1 : AV) (x : Env) (c : KN) (p : KV) : b131n5 K k a3 a1 x c p = wReg Tryz.prog K [1, 3, 5] o131n5 ([(3, a3), (1, a1)] ++ x) k c p := by unfold b131n5; simp only [xConv_eq, xLd_eq, xFld_eq]; kernel_rfl
noncomputable def s131n5 (K : KTC) (e : Env) (k : KS) (c : KN) (p : KV) : Kr := gt e 3 fun a3 => gt e 1 fun a1 => b131n5 K k a3 a1 (e.keep [5]) c p
theorem p131n5 (K : KTC) (K' : KT) (hK : CSound K K') : FitsC Tryz.prog K' (.reg (s131n5 K)) (.reg o131n5 [1, 3, 5]) := fun e k c p y h => by
  obtain ⟨a3, h3, h⟩ := gt_some h
  obtain ⟨a1, h1, h⟩ := gt_some h
  exact wreg_fit hK (by decide +kernel) (keep_cons h3 (keep_cons h1 (rfl))) (e131n5 K k a3 a1 (e.keep [5]) c p) h
def o131n6 : List RI := [⟨(some 27), none, (.q (.mov (.t 3)))⟩, ⟨(some 28), none, (.q (.fld 4 4 (.t 1)))⟩, ⟨(some 29), none, (.rd (.ld false 1 (.t 28)))⟩, ⟨(some 30), none, (.ac (.callf 180 [(.t 27), (.t 29)]))⟩]
noncomputable def b131n6 (K : KTC) (k : KS) (a3 a1 : AV) (x : Env) (c : KN) (p : KV) : Kr :=
  xFld 4 4 a1 fun v0 =>
  xLd k.t false 1 v0 fun v1 =>
  K 180 [a3, v1] k (fun v2 k2 =>
  c (Env.keep ([(1, a1), (3, a3)] ++ x) [1, 3, 5]) k2) (p)
theorem e131n6 (K : KTC) (k : KS) (a3 a1 : AV) (x : Env) (c : KN) (p : KV) : b131n6 K k a3 a1 x c p = wReg Tryz.prog K [1, 3, 5] o131n6 ([(3, a3), (1, a1)] ++ x) k c p := by unfold b131n6; simp only [xLd_eq, xFld_eq]; kernel_rfl
noncomputable def s131n6 (K : KTC) (e : Env) (k : KS) (c : KN) (p : KV) : Kr := gt e 3 fun a3 => gt e 1 fun a1 => b131n6 K k a3 a1 (e.keep [5]) c p
theorem p131n6 (K : KTC) (K' : KT) (hK : CSound K K') : FitsC Tryz.prog K' (.reg (s131n6 K)) (.reg o131n6 [1, 3, 5]) := fun e k c p y h => by
  obtain ⟨a3, h3, h⟩ := gt_some h
  obtain ⟨a1, h1, h⟩ := gt_some h
  exact wreg_fit hK (by decide +kernel) (keep_cons h3 (keep_cons h1 (rfl))) (e131n6 K k a3 a1 (e.keep [5]) c p) h
def o131n7 : List RI := [⟨(some 31), none, (.q (.mov (.t 3)))⟩, ⟨(some 32), none, (.q (.fld 5 5 (.t 1)))⟩, ⟨(some 33), none, (.rd (.ld false 1 (.t 32)))⟩, ⟨(some 34), none, (.ac (.callf 109 [(.t 31), (.t 33), (.k (.int .i64 64))]))⟩]
noncomputable def b131n7 (K : KTC) (k : KS) (a3 a1 : AV) (x : Env) (c : KN) (p : KV) : Kr :=
  xFld 5 5 a1 fun v0 =>
  xLd k.t false 1 v0 fun v1 =>
  K 109 [a3, v1, (.sc (.int .i64 64))] k (fun v2 k2 =>
  c (Env.keep ([(1, a1), (3, a3)] ++ x) [1, 3, 5]) k2) (p)
theorem e131n7 (K : KTC) (k : KS) (a3 a1 : AV) (x : Env) (c : KN) (p : KV) : b131n7 K k a3 a1 x c p = wReg Tryz.prog K [1, 3, 5] o131n7 ([(3, a3), (1, a1)] ++ x) k c p := by unfold b131n7; simp only [xLd_eq, xFld_eq]; kernel_rfl
noncomputable def s131n7 (K : KTC) (e : Env) (k : KS) (c : KN) (p : KV) : Kr := gt e 3 fun a3 => gt e 1 fun a1 => b131n7 K k a3 a1 (e.keep [5]) c p
theorem p131n7 (K : KTC) (K' : KT) (hK : CSound K K') : FitsC Tryz.prog K' (.reg (s131n7 K)) (.reg o131n7 [1, 3, 5]) := fun e k c p y h => by
  obtain ⟨a3, h3, h⟩ := gt_some h
  obtain ⟨a1, h1, h⟩ := gt_some h
  exact wreg_fit hK (by decide +kernel) (keep_cons h3 (keep_cons h1 (rfl))) (e131n7 K k a3 a1 (e.keep [5]) c p) h
def o131n8 : List RI := [⟨(some 35), none, (.q (.fld 0 0 (.t 1)))⟩, ⟨(some 36), none, (.rd (.ld false 1 (.t 35)))⟩]
noncomputable def b131n8 (K : KTC) (k : KS) (a1 a3 : AV) (x : Env) (c : KN) (p : KV) : Kr :=
  xFld 0 0 a1 fun v0 =>
  xLd k.t false 1 v0 fun v1 =>
  c (Env.keep ([(1, a1), (3, a3), (36, v1)] ++ x) [1, 3, 5, 36]) k
theorem e131n8 (K : KTC) (k : KS) (a1 a3 : AV) (x : Env) (c : KN) (p : KV) : b131n8 K k a1 a3 x c p = wReg Tryz.prog K [1, 3, 5, 36] o131n8 ([(1, a1), (3, a3)] ++ x) k c p := by unfold b131n8; simp only [xLd_eq, xFld_eq]; kernel_rfl
noncomputable def s131n8 (K : KTC) (e : Env) (k : KS) (c : KN) (p : KV) : Kr := gt e 1 fun a1 => gt e 3 fun a3 => b131n8 K k a1 a3 (e.keep [5]) c p
theorem p131n8 (K : KTC) (K' : KT) (hK : CSound K K') : FitsC Tryz.prog K' (.reg (s131n8 K)) (.reg o131n8 [1, 3, 5, 36]) := fun e k c p y h => by
  obtain ⟨a1, h1, h⟩ := gt_some h
  obtain ⟨a3, h3, h⟩ := gt_some h
  exact wreg_fit hK (by decide +kernel) (keep_cons h1 (keep_cons h3 (rfl))) (e131n8 K k a1 a3 (e.keep [5]) c p) h
def o131n9 : List RI := [⟨(some 38), none, (.q (.bin .eql 3 (.t 36) (.k (.int .i64 2))))⟩, ⟨(some 37), none, (.q (.mov (.t 38)))⟩]
noncomputable def b131n9 (K : KTC) (k : KS) (a36 a1 a3 : AV) (x : Env) (c : KN) (p : KV) : Kr :=
  xEql 3 a36 (.sc (.int .i64 2)) fun v0 =>
  c (Env.keep ([(1, a1), (3, a3), (36, a36), (37, v0)] ++ x) [1, 3, 5, 36, 37]) k
theorem e131n9 (K : KTC) (k : KS) (a36 a1 a3 : AV) (x : Env) (c : KN) (p : KV) : b131n9 K k a36 a1 a3 x c p = wReg Tryz.prog K [1, 3, 5, 36, 37] o131n9 ([(36, a36), (1, a1), (3, a3)] ++ x) k c p := by unfold b131n9; simp only [xEql_eq]; kernel_rfl
noncomputable def s131n9 (K : KTC) (e : Env) (k : KS) (c : KN) (p : KV) : Kr := gt e 36 fun a36 => gt e 1 fun a1 => gt e 3 fun a3 => b131n9 K k a36 a1 a3 (e.keep [5]) c p
theorem p131n9 (K : KTC) (K' : KT) (hK : CSound K K') : FitsC Tryz.prog K' (.reg (s131n9 K)) (.reg o131n9 [1, 3, 5, 36, 37]) := fun e k c p y h => by
  obtain ⟨a36, h36, h⟩ := gt_some h
  obtain ⟨a1, h1, h⟩ := gt_some h
  obtain ⟨a3, h3, h⟩ := gt_some h
  exact wreg_fit hK (by decide +kernel) (keep_cons h36 (keep_cons h1 (keep_cons h3 (rfl)))) (e131n9 K k a36 a1 a3 (e.keep [5]) c p) h
def o131n10 : List RI := [⟨(some 39), none, (.q (.mov (.t 3)))⟩, ⟨(some 40), none, (.q (.fld 6 6 (.t 1)))⟩, ⟨(some 41), none, (.rd (.ld false 1 (.t 40)))⟩, ⟨(some 42), none, (.q (.conv 3 39 (.t 41)))⟩, ⟨(some 43), none, (.ac (.callf 109 [(.t 39), (.t 42), (.k (.int .i64 10))]))⟩]
noncomputable def b131n10 (K : KTC) (k : KS) (a3 a1 : AV) (c : KN) (p : KV) : Kr :=
  xFld 6 6 a1 fun v0 =>
  xLd k.t false 1 v0 fun v1 =>
  xConv 3 39 v1 fun v2 =>
  K 109 [a3, v2, (.sc (.int .i64 10))] k (fun v3 k3 =>
  c [(1, a1), (3, a3)] k3) (p)
theorem e131n10 (K : KTC) (k : KS) (a3 a1 : AV) (c : KN) (p : KV) : b131n10 K k a3 a1 c p = wReg Tryz.prog K [1, 3] o131n10 [(3, a3), (1, a1)] k c p := by unfold b131n10; simp only [xConv_eq, xLd_eq, xFld_eq]; kernel_rfl
noncomputable def s131n10 (K : KTC) (e : Env) (k : KS) (c : KN) (p : KV) : Kr := gt e 3 fun a3 => gt e 1 fun a1 => b131n10 K k a3 a1 c p
theorem p131n10 (K : KTC) (K' : KT) (hK : CSound K K') : FitsC Tryz.prog K' (.reg (s131n10 K)) (.reg o131n10 [1, 3]) := fun e k c p y h => by
  obtain ⟨a3, h3, h⟩ := gt_some h
  obtain ⟨a1, h1, h⟩ := gt_some h
  exact wreg_fit hK (by decide +kernel) (keep_cons h3 (keep_cons h1 (keep_nil))) (e131n10 K k a3 a1 c p) h
def o131n11 : List RI := [⟨(some 44), none, (.q (.mov (.t 3)))⟩, ⟨(some 45), none, (.q (.fld 7 7 (.t 1)))⟩, ⟨(some 46), none, (.rd (.ld false 1 (.t 45)))⟩, ⟨(some 47), none, (.q (.conv 3 39 (.t 46)))⟩, ⟨(some 48), none, (.ac (.callf 109 [(.t 44), (.t 47), (.k (.int .i64 10))]))⟩]
noncomputable def b131n11 (K : KTC) (k : KS) (a3 a1 : AV) (c : KN) (p : KV) : Kr :=
  xFld 7 7 a1 fun v0 =>
  xLd k.t false 1 v0 fun v1 =>
  xConv 3 39 v1 fun v2 =>
  K 109 [a3, v2, (.sc (.int .i64 10))] k (fun v3 k3 =>
  c [(1, a1), (3, a3)] k3) (p)
theorem e131n11 (K : KTC) (k : KS) (a3 a1 : AV) (c : KN) (p : KV) : b131n11 K k a3 a1 c p = wReg Tryz.prog K [1, 3] o131n11 [(3, a3), (1, a1)] k c p := by unfold b131n11; simp only [xConv_eq, xLd_eq, xFld_eq]; kernel_rfl
noncomputable def s131n11 (K : KTC) (e : Env) (k : KS) (c : KN) (p : KV) : Kr := gt e 3 fun a3 => gt e 1 fun a1 => b131n11 K k a3 a1 c p
theorem p131n11 (K : KTC) (K' : KT) (hK : CSound K K') : FitsC Tryz.prog K' (.reg (s131n11 K)) (.reg o131n11 [1, 3]) := fun e k c p y h => by
  obtain ⟨a3, h3, h⟩ := gt_some h
  obtain ⟨a1, h1, h⟩ := gt_some h
  exact wreg_fit hK (by decide +kernel) (keep_cons h3 (keep_cons h1 (keep_nil))) (e131n11 K k a3 a1 c p) h
def o131n12 : List RI := [⟨(some 49), none, (.q (.mov (.t 3)))⟩, ⟨(some 50), none, (.q (.fld 8 8 (.t 1)))⟩, ⟨(some 51), none, (.rd (.ld false 1 (.t 50)))⟩, ⟨(some 52), none, (.q (.len false (.t 51)))⟩, ⟨(some 53), none, (.q (.conv 3 39 (.t 52)))⟩, ⟨(some 54), none, (.ac (.callf 109 [(.t 49), (.t 53), (.k (.int .i64 5))]))⟩]
noncomputable def b131n12 (K : KTC) (k : KS) (a3 a1 : AV) (c : KN) (p : KV) : Kr :=
  xFld 8 8 a1 fun v0 =>
  xLd k.t false 1 v0 fun v1 =>
  xLen v1 fun v2 =>
  xConv 3 39 v2 fun v3 =>
  K 109 [a3, v3, (.sc (.int .i64 5))] k (fun v4 k4 =>
  c [(1, a1), (3, a3)] k4) (p)
theorem e131n12 (K : KTC) (k : KS) (a3 a1 : AV) (c : KN) (p : KV) : b131n12 K k a3 a1 c p = wReg Tryz.prog K [1, 3] o131n12 [(3, a3), (1, a1)] k c p := by unfold b131n12; simp only [xConv_eq, xLen_eq, xLd_eq, xFld_eq]; kernel_rfl
noncomputable def s131n12 (K : KTC) (e : Env) (k : KS) (c : KN) (p : KV) : Kr := gt e 3 fun a3 => gt e 1 fun a1 => b131n12 K k a3 a1 c p
theorem p131n12 (K : KTC) (K' : KT) (hK : CSound K K') : FitsC Tryz.prog K' (.reg (s131n12 K)) (.reg o131n12 [1, 3]) := fun e k c p y h => by
  obtain ⟨a3, h3, h⟩ := gt_some h
  obtain ⟨a1, h1, h⟩ := gt_some h
  exact wreg_fit hK (by decide +kernel) (keep_cons h3 (keep_cons h1 (keep_nil))) (e131n12 K k a3 a1 c p) h
def o131n13 : List RI := [⟨(some 55), none, (.q (.fld 8 8 (.t 1)))⟩, ⟨(some 56), none, (.rd (.ld false 1 (.t 55)))⟩, ⟨(some 57), none, (.q (.len false (.t 56)))⟩, ⟨(some 58), none, (.q (.mov (.k (.int .i64 0))))⟩]
noncomputable def b131n13 (K : KTC) (k : KS) (a1 a3 : AV) (c : KN) (p : KV) : Kr :=
  xFld 8 8 a1 fun v0 =>
  xLd k.t false 1 v0 fun v1 =>
  xLen v1 fun v2 =>
  c [(1, a1), (3, a3), (56, v1), (57, v2), (58, (.sc (.int .i64 0)))] k
theorem e131n13 (K : KTC) (k : KS) (a1 a3 : AV) (c : KN) (p : KV) : b131n13 K k a1 a3 c p = wReg Tryz.prog K [1, 3, 56, 57, 58] o131n13 [(1, a1), (3, a3)] k c p := by unfold b131n13; simp only [xLen_eq, xLd_eq, xFld_eq]; kernel_rfl
noncomputable def s131n13 (K : KTC) (e : Env) (k : KS) (c : KN) (p : KV) : Kr := gt e 1 fun a1 => gt e 3 fun a3 => b131n13 K k a1 a3 c p
theorem p131n13 (K : KTC) (K' : KT) (hK : CSound K K') : FitsC Tryz.prog K' (.reg (s131n13 K)) (.reg o131n13 [1, 3, 56, 57, 58]) := fun e k c p y h => by
  obtain ⟨a1, h1, h⟩ := gt_some h
  obtain ⟨a3, h3, h⟩ := gt_some h
  exact wreg_fit hK (by decide +kernel) (keep_cons h1 (keep_cons h3 (keep_nil))) (e131n13 K k a1 a3 c p) h
def o131n14 : List RI := [⟨(some 59), none, (.q (.bin .lss 3 (.t 58) (.t 57)))⟩]
noncomputable def b131n14 (K : KTC) (k : KS) (a58 a57 a1 a3 a56 : AV) (x : Env) (c : KN) (p : KV) : Kr :=
  xLss 3 a58 a57 fun v0 =>
  c (Env.keep ([(1, a1), (3, a3), (56, a56), (57, a57), (58, a58), (59, v0)] ++ x) [1, 3, 5, 56, 57, 58, 59]) k
theorem e131n14 (K : KTC) (k : KS) (a58 a57 a1 a3 a56 : AV) (x : Env) (c : KN) (p : KV) : b131n14 K k a58 a57 a1 a3 a56 x c p = wReg Tryz.prog K [1, 3, 5, 56, 57, 58, 59] o131n14 ([(58, a58), (57, a57), (1, a1), (3, a3), (56, a56)] ++ x) k c p := by unfold b131n14; simp only [xLss_eq]; kernel_rfl
noncomputable def s131n14 (K : KTC) (e : Env) (k : KS) (c : KN) (p : KV) : Kr := gt e 58 fun a58 => gt e 57 fun a57 => gt e 1 fun a1 => gt e 3 fun a3 => gt e 56 fun a56 => b131n14 K k a58 a57 a1 a3 a56 (e.keep [5]) c p
theorem p131n14 (K : KTC) (K' : KT) (hK : CSound K K') : FitsC Tryz.prog K' (.reg (s131n14 K)) (.reg o131n14 [1, 3, 5, 56, 57, 58, 59]) := fun e k c p y h => by
  obtain ⟨a58, h58, h⟩ := gt_some h
  obtain ⟨a57, h57, h⟩ := gt_some h
  obtain ⟨a1, h1, h⟩ := gt_some h
  obtain ⟨a3, h3, h⟩ := gt_some h
  obtain ⟨a56, h56, h⟩ := gt_some h
  exact wreg_fit hK (by decide +kernel) (keep_cons h58 (keep_cons h57 (keep_cons h1 (keep_cons h3 (keep_cons h56 (rfl)))))) (e131n14 K k a58 a57 a1 a3 a56 (e.keep [5]) c p) h
def o131n15 : List RI := [⟨(some 60), none, (.q (.ixs 3 (.t 56) (.t 58)))⟩, ⟨(some 61), none, (.rd (.ld true 3 (.t 60)))⟩, ⟨(some 5), none, (.al (.alloc (.agg [1, 1, 1] [(.sc (.int .i64 0)), (.sc (.int .i64 0)), (.sc (.int .i64 0))])))⟩, ⟨none, none, (.ac (.st 3 (.t 5) (.t 61)))⟩]
noncomputable def b131n15 (K : KTC) (k : KS) (a56 a58 a1 a3 a57 : AV) (c : KN) (p : KV) : Kr :=
  xIxl k.t 3 true 3 a56 a58 fun v0 =>
  xAlloc (.agg [1, 1, 1] [(.sc (.int .i64 0)), (.sc (.int .i64 0)), (.sc (.int .i64 0))]) k fun v1 k1 =>
  pCall (kA (fun _ _ _ => none) [(5, v1), (61, v0)] k1 (.st 3 (.t 5) (.t 61))) (fun v2 k2 =>
  c [(1, a1), (3, a3), (5, v1), (56, a56), (57, a57), (58, a58)] k2) (p)
theorem e131n15 (K : KTC) (k : KS) (a56 a58 a1 a3 a57 : AV) (c : KN) (p : KV) : b131n15 K k a56 a58 a1 a3 a57 c p = wReg Tryz.prog K [1, 3, 5, 56, 57, 58] o131n15 [(56, a56), (58, a58), (1, a1), (3, a3), (57, a57)] k c p := by unfold b131n15; simp only [xAlloc_eq, xIxl_eq]; kernel_rfl
noncomputable def s131n15 (K : KTC) (e : Env) (k : KS) (c : KN) (p : KV) : Kr := gt e 56 fun a56 => gt e 58 fun a58 => gt e 1 fun a1 => gt e 3 fun a3 => gt e 57 fun a57 => b131n15 K k a56 a58 a1 a3 a57 c p
theorem p131n15 (K : KTC) (K' : KT) (hK : CSound K K') : FitsC Tryz.prog K' (.reg (s131n15 K)) (.reg o131n15 [1, 3, 5, 56, 57, 58]) := fun e k c p y h => by
  obtain ⟨a56, h56, h⟩ := gt_some h
  obtain ⟨a58, h58, h⟩ := gt_some h
  obtain ⟨a1, h1, h⟩ := gt_some h
  obtain ⟨a3, h3, h⟩ := gt_some h
  obtain ⟨a57, h57, h⟩ := gt_some h
  exact wreg_fit hK (by decide +kernel) (keep_cons h56 (keep_cons h58 (keep_cons h1 (keep_cons h3 (keep_cons h57 (keep_nil)))))) (e131n15 K k a56 a58 a1 a3 a57 c p) h
def o131n16 : List RI := [⟨(some 62), none, (.q (.mov (.t 3)))⟩, ⟨(some 63), none, (.rd (.ld true 3 (.t 5)))⟩, ⟨(some 64), none, (.ac (.callf 181 [(.t 62), (.t 63)]))⟩]
noncomputable def b131n16 (K : KTC) (k : KS) (a3 a5 a1 a56 a57 a58 : AV) (c : KN) (p : KV) : Kr :=
  xLd k.t true 3 a5 fun v0 =>
  K 181 [a3, v0] k (fun v1 k1 =>
  c [(1, a1), (3, a3), (5, a5), (56, a56), (57, a57), (58, a58)] k1) (p)
theorem e131n16 (K : KTC) (k : KS) (a3 a5 a1 a56 a57 a58 : AV) (c : KN) (p : KV) : b131n16 K k a3 a5 a1 a56 a57 a58 c p = wReg Tryz.prog K [1, 3, 5, 56, 57, 58] o131n16 [(3, a3), (5, a5), (1, a1), (56, a56), (57, a57), (58, a58)] k c p := by unfold b131n16; simp only [xLd_eq]; kernel_rfl
noncomputable def s131n16 (K : KTC) (e : Env) (k : KS) (c : KN) (p : KV) : Kr := gt e 3 fun a3 => gt e 5 fun a5 => gt e 1 fun a1 => gt e 56 fun a56 => gt e 57 fun a57 => gt e 58 fun a58 => b131n16 K k a3 a5 a1 a56 a57 a58 c p
theorem p131n16 (K : KTC) (K' : KT) (hK : CSound K K') : FitsC Tryz.prog K' (.reg (s131n16 K)) (.reg o131n16 [1, 3, 5, 56, 57, 58]) := fun e k c p y h => by
  obtain ⟨a3, h3, h⟩ := gt_some h
  obtain ⟨a5, h5, h⟩ := gt_some h
  obtain ⟨a1, h1, h⟩ := gt_some h
  obtain ⟨a56, h56, h⟩ := gt_some h
  obtain ⟨a57, h57, h⟩ := gt_some h
  obtain ⟨a58, h58, h⟩ := gt_some h
  exact wreg_fit hK (by decide +kernel) (keep_cons h3 (keep_cons h5 (keep_cons h1 (keep_cons h56 (keep_cons h57 (keep_cons h58 (keep_nil))))))) (e131n16 K k a3 a5 a1 a56 a57 a58 c p) h
def o131n17 : List RI := [⟨(some 65), none, (.q (.bin .add 3 (.t 58) (.k (.int .i64 1))))⟩, ⟨(some 58), none, (.q (.mov (.t 65)))⟩]
noncomputable def b131n17 (K : KTC) (k : KS) (a58 a1 a3 a5 a56 a57 : AV) (c : KN) (p : KV) : Kr :=
  xAdd 3 a58 (.sc (.int .i64 1)) fun v0 =>
  c [(1, a1), (3, a3), (5, a5), (56, a56), (57, a57), (58, v0)] k
theorem e131n17 (K : KTC) (k : KS) (a58 a1 a3 a5 a56 a57 : AV) (c : KN) (p : KV) : b131n17 K k a58 a1 a3 a5 a56 a57 c p = wReg Tryz.prog K [1, 3, 5, 56, 57, 58] o131n17 [(58, a58), (1, a1), (3, a3), (5, a5), (56, a56), (57, a57)] k c p := by unfold b131n17; simp only [xAdd_eq]; kernel_rfl
noncomputable def s131n17 (K : KTC) (e : Env) (k : KS) (c : KN) (p : KV) : Kr := gt e 58 fun a58 => gt e 1 fun a1 => gt e 3 fun a3 => gt e 5 fun a5 => gt e 56 fun a56 => gt e 57 fun a57 => b131n17 K k a58 a1 a3 a5 a56 a57 c p
theorem p131n17 (K : KTC) (K' : KT) (hK : CSound K K') : FitsC Tryz.prog K' (.reg (s131n17 K)) (.reg o131n17 [1, 3, 5, 56, 57, 58]) := fun e k c p y h => by
  obtain ⟨a58, h58, h⟩ := gt_some h
  obtain ⟨a1, h1, h⟩ := gt_some h
  obtain ⟨a3, h3, h⟩ := gt_some h
  obtain ⟨a5, h5, h⟩ := gt_some h
  obtain ⟨a56, h56, h⟩ := gt_some h
  obtain ⟨a57, h57, h⟩ := gt_some h
  exact wreg_fit hK (by decide +kernel) (keep_cons h58 (keep_cons h1 (keep_cons h3 (keep_cons h5 (keep_cons h56 (keep_cons h57 (keep_nil))))))) (e131n17 K k a58 a1 a3 a5 a56 a57 c p) h
def o131n18 : List RI := [⟨(some 67), none, (.q (.bin .eql 3 (.t 36) (.k (.int .i64 3))))⟩, ⟨(some 66), none, (.q (.mov (.t 67)))⟩]
noncomputable def b131n18 (K : KTC) (k : KS) (a36 a1 a3 : AV) (x : Env) (c : KN) (p : KV) : Kr :=
  xEql 3 a36 (.sc (.int .i64 3)) fun v0 =>
  c (Env.keep ([(1, a1), (3, a3), (36, a36), (66, v0)] ++ x) [1, 3, 5, 36, 66]) k
theorem e131n18 (K : KTC) (k : KS) (a36 a1 a3 : AV) (x : Env) (c : KN) (p : KV) : b131n18 K k a36 a1 a3 x c p = wReg Tryz.prog K [1, 3, 5, 36, 66] o131n18 ([(36, a36), (1, a1), (3, a3)] ++ x) k c p := by unfold b131n18; simp only [xEql_eq]; kernel_rfl
noncomputable def s131n18 (K : KTC) (e : Env) (k : KS) (c : KN) (p : KV) : Kr := gt e 36 fun a36 => gt e 1 fun a1 => gt e 3 fun a3 => b131n18 K k a36 a1 a3 (e.keep [5]) c p
theorem p131n18 (K : KTC) (K' : KT) (hK : CSound K K') : FitsC Tryz.prog K' (.reg (s131n18 K)) (.reg o131n18 [1, 3, 5, 36, 66]) := fun e k c p y h => by
  obtain ⟨a36, h36, h⟩ := gt_some h
  obtain ⟨a1, h1, h⟩ := gt_some h
  obtain ⟨a3, h3, h⟩ := gt_some h
  exact wreg_fit hK (by decide +kernel) (keep_cons h36 (keep_cons h1 (keep_cons h3 (rfl)))) (e131n18 K k a36 a1 a3 (e.keep [5]) c p) h
def o131n19 : List RI := [⟨(some 68), none, (.q (.mov (.t 3)))⟩, ⟨(some 69), none, (.rd (.ld true 13 (.t 1)))⟩, ⟨(some 70), none, (.ac (.callf 182 [(.t 68), (.t 69)]))⟩]
noncomputable def b131n19 (K : KTC) (k : KS) (a3 a1 : AV) (x : Env) (c : KN) (p : KV) : Kr :=
  xLd k.t true 13 a1 fun v0 =>
  K 182 [a3, v0] k (fun v1 k1 =>
  c (Env.keep ([(1, a1), (3, a3)] ++ x) [1, 3, 5]) k1) (p)
theorem e131n19 (K : KTC) (k : KS) (a3 a1 : AV) (x : Env) (c : KN) (p : KV) : b131n19 K k a3 a1 x c p = wReg Tryz.prog K [1, 3, 5] o131n19 ([(3, a3), (1, a1)] ++ x) k c p := by unfold b131n19; simp only [xLd_eq]; kernel_rfl
noncomputable def s131n19 (K : KTC) (e : Env) (k : KS) (c : KN) (p : KV) : Kr := gt e 3 fun a3 => gt e 1 fun a1 => b131n19 K k a3 a1 (e.keep [5]) c p
theorem p131n19 (K : KTC) (K' : KT) (hK : CSound K K') : FitsC Tryz.prog K' (.reg (s131n19 K)) (.reg o131n19 [1, 3, 5]) := fun e k c p y h => by
  obtain ⟨a3, h3, h⟩ := gt_some h
  obtain ⟨a1, h1, h⟩ := gt_some h
  exact wreg_fit hK (by decide +kernel) (keep_cons h3 (keep_cons h1 (rfl))) (e131n19 K k a3 a1 (e.keep [5]) c p) h
def o131n20 : List RI := [⟨(some 72), none, (.q (.bin .eql 3 (.t 36) (.k (.int .i64 4))))⟩, ⟨(some 71), none, (.q (.mov (.t 72)))⟩]
noncomputable def b131n20 (K : KTC) (k : KS) (a36 a1 a3 : AV) (x : Env) (c : KN) (p : KV) : Kr :=
  xEql 3 a36 (.sc (.int .i64 4)) fun v0 =>
  c (Env.keep ([(1, a1), (3, a3), (71, v0)] ++ x) [1, 3, 5, 71]) k
theorem e131n20 (K : KTC) (k : KS) (a36 a1 a3 : AV) (x : Env) (c : KN) (p : KV) : b131n20 K k a36 a1 a3 x c p = wReg Tryz.prog K [1, 3, 5, 71] o131n20 ([(36, a36), (1, a1), (3, a3)] ++ x) k c p := by unfold b131n20; simp only [xEql_eq]; kernel_rfl
noncomputable def s131n20 (K : KTC) (e : Env) (k : KS) (c : KN) (p : KV) : Kr := gt e 36 fun a36 => gt e 1 fun a1 => gt e 3 fun a3 => b131n20 K k a36 a1 a3 (e.keep [5]) c p
theorem p131n20 (K : KTC) (K' : KT) (hK : CSound K K') : FitsC Tryz.prog K' (.reg (s131n20 K)) (.reg o131n20 [1, 3, 5, 71]) := fun e k c p y h => by
  obtain ⟨a36, h36, h⟩ := gt_some h
  obtain ⟨a1, h1, h⟩ := gt_some h
  obtain ⟨a3, h3, h⟩ := gt_some h
  exact wreg_fit hK (by decide +kernel) (keep_cons h36 (keep_cons h1 (keep_cons h3 (rfl)))) (e131n20 K k a36 a1 a3 (e.keep [5]) c p) h
def o131n21 : List RI := [⟨(some 73), none, (.q (.mov (.t 3)))⟩, ⟨(some 74), none, (.q (.fld 11 11 (.t 1)))⟩, ⟨(some 75), none, (.rd (.ld false 1 (.t 74)))⟩, ⟨(some 76), none, (.q (.conv 3 39 (.t 75)))⟩, ⟨(some 77), none, (.ac (.callf 109 [(.t 73), (.t 76), (.k (.int .i64 10))]))⟩]
noncomputable def b131n21 (K : KTC) (k : KS) (a3 a1 : AV) (x : Env) (c : KN) (p : KV) : Kr :=
  xFld 11 11 a1 fun v0 =>
  xLd k.t false 1 v0 fun v1 =>
  xConv 3 39 v1 fun v2 =>
  K 109 [a3, v2, (.sc (.int .i64 10))] k (fun v3 k3 =>
  c (Env.keep ([(1, a1), (3, a3)] ++ x) [1, 3, 5]) k3) (p)
theorem e131n21 (K : KTC) (k : KS) (a3 a1 : AV) (x : Env) (c : KN) (p : KV) : b131n21 K k a3 a1 x c p = wReg Tryz.prog K [1, 3, 5] o131n21 ([(3, a3), (1, a1)] ++ x) k c p := by unfold b131n21; simp only [xConv_eq, xLd_eq, xFld_eq]; kernel_rfl
noncomputable def s131n21 (K : KTC) (e : Env) (k : KS) (c : KN) (p : KV) : Kr := gt e 3 fun a3 => gt e 1 fun a1 => b131n21 K k a3 a1 (e.keep [5]) c p
theorem p131n21 (K : KTC) (K' : KT) (hK : CSound K K') : FitsC Tryz.prog K' (.reg (s131n21 K)) (.reg o131n21 [1, 3, 5]) := fun e k c p y h => by
  obtain ⟨a3, h3, h⟩ := gt_some h
  obtain ⟨a1, h1, h⟩ := gt_some h
  exact wreg_fit hK (by decide +kernel) (keep_cons h3 (keep_cons h1 (rfl))) (e131n21 K k a3 a1 (e.keep [5]) c p) h
def o131n22 : List RI := [⟨(some 78), none, (.q (.mov (.t 3)))⟩, ⟨(some 79), none, (.q (.fld 12 12 (.t 1)))⟩, ⟨(some 80), none, (.rd (.ld false 1 (.t 79)))⟩, ⟨(some 81), none, (.q (.conv 3 39 (.t 80)))⟩, ⟨(some 82), none, (.ac (.callf 109 [(.t 78), (.t 81), (.k (.int .i64 62))]))⟩]
noncomputable def b131n22 (K : KTC) (k : KS) (a3 a1 : AV) (x : Env) (c : KN) (p : KV) : Kr :=
  xFld 12 12 a1 fun v0 =>
  xLd k.t false 1 v0 fun v1 =>
  xConv 3 39 v1 fun v2 =>
  K 109 [a3, v2, (.sc (.int .i64 62))] k (fun v3 k3 =>
  c (Env.keep ([(1, a1), (3, a3)] ++ x) [1, 3, 5]) k3) (p)
theorem e131n22 (K : KTC) (k : KS) (a3 a1 : AV) (x : Env) (c : KN) (p : KV) : b131n22 K k a3 a1 x c p = wReg Tryz.prog K [1, 3, 5] o131n22 ([(3, a3), (1, a1)] ++ x) k c p := by unfold b131n22; simp only [xConv_eq, xLd_eq, xFld_eq]; kernel_rfl
noncomputable def s131n22 (K : KTC) (e : Env) (k : KS) (c : KN) (p : KV) : Kr := gt e 3 fun a3 => gt e 1 fun a1 => b131n22 K k a3 a1 (e.keep [5]) c p
theorem p131n22 (K : KTC) (K' : KT) (hK : CSound K K') : FitsC Tryz.prog K' (.reg (s131n22 K)) (.reg o131n22 [1, 3, 5]) := fun e k c p y h => by
  obtain ⟨a3, h3, h⟩ := gt_some h
  obtain ⟨a1, h1, h⟩ := gt_some h
  exact wreg_fit hK (by decide +kernel) (keep_cons h3 (keep_cons h1 (rfl))) (e131n22 K k a3 a1 (e.keep [5]) c p) h
def o131n23 : List RI := [⟨(some 83), none, (.q (.mov (.t 3)))⟩, ⟨(some 84), none, (.ac (.callf 111 [(.t 83)]))⟩, ⟨(some 2), none, (.q (.mov (.t 84)))⟩]
noncomputable def b131n23 (K : KTC) (k : KS) (a3 a1 : AV) (x : Env) (c : KN) (p : KV) : Kr :=
  K 111 [a3] k (fun v0 k0 =>
  c (Env.keep ([(1, a1), (2, v0)] ++ x) [1, 2, 5]) k0) (p)
theorem e131n23 (K : KTC) (k : KS) (a3 a1 : AV) (x : Env) (c : KN) (p : KV) : b131n23 K k a3 a1 x c p = wReg Tryz.prog K [1, 2, 5] o131n23 ([(3, a3), (1, a1)] ++ x) k c p := by unfold b131n23; kernel_rfl
noncomputable def s131n23 (K : KTC) (e : Env) (k : KS) (c : KN) (p : KV) : Kr := gt e 3 fun a3 => gt e 1 fun a1 => b131n23 K k a3 a1 (e.keep [5]) c p
theorem p131n23 (K : KTC) (K' : KT) (hK : CSound K K') : FitsC Tryz.prog K' (.reg (s131n23 K)) (.reg o131n23 [1, 2, 5]) := fun e k c p y h => by
  obtain ⟨a3, h3, h⟩ := gt_some h
  obtain ⟨a1, h1, h⟩ := gt_some h
  exact wreg_fit hK (by decide +kernel) (keep_cons h3 (keep_cons h1 (rfl))) (e131n23 K k a3 a1 (e.keep [5]) c p) h
def r131 : RFn := ⟨1, .seq (.reg o131n0 [1, 5]) (.seq (.reg o131n1 [1, 3, 5]) (.seq (.reg o131n2 [1, 3, 5]) (.seq (.reg o131n3 [1, 3, 5]) (.seq (.reg o131n4 [1, 3, 5]) (.seq (.reg o131n5 [1, 3, 5]) (.seq (.reg o131n6 [1, 3, 5]) (.seq (.reg o131n7 [1, 3, 5]) (.seq (.seq (.reg o131n8 [1, 3, 5, 36]) (.block 0 (.seq (.reg o131n9 [1, 3, 5, 36, 37]) (.cond (.t 37) (.seq (.reg o131n10 [1, 3]) (.seq (.reg o131n11 [1, 3]) (.seq (.reg o131n12 [1, 3]) (.seq (.reg o131n13 [1, 3, 56, 57, 58]) (.block 1 (.loop [1, 3, 56, 57, 58] (.free [5] (.seq (.reg o131n14 [1, 3, 5, 56, 57, 58, 59]) (.seq (.cond (.t 59) (.skip) (.exit 1)) (.seq (.block 2 (.seq (.reg o131n15 [1, 3, 5, 56, 57, 58]) (.reg o131n16 [1, 3, 5, 56, 57, 58]))) (.reg o131n17 [1, 3, 5, 56, 57, 58]))))))))))) (.seq (.reg o131n18 [1, 3, 5, 36, 66]) (.cond (.t 66) (.reg o131n19 [1, 3, 5]) (.seq (.reg o131n20 [1, 3, 5, 71]) (.cond (.t 71) (.seq (.reg o131n21 [1, 3, 5]) (.reg o131n22 [1, 3, 5])) (.skip))))))))) (.seq (.reg o131n23 [1, 2, 5]) (.ret)))))))))), [.tmp 2], [1, 5]⟩
noncomputable def q131 (K : KTC) : FK := .seq (.reg (s131n0 K)) (.seq (.reg (s131n1 K)) (.seq (.reg (s131n2 K)) (.seq (.reg (s131n3 K)) (.seq (.reg (s131n4 K)) (.seq (.reg (s131n5 K)) (.seq (.reg (s131n6 K)) (.seq (.reg (s131n7 K)) (.seq (.seq (.reg (s131n8 K)) (.block 0 (.seq (.reg (s131n9 K)) (.cond (.t 37) (.seq (.reg (s131n10 K)) (.seq (.reg (s131n11 K)) (.seq (.reg (s131n12 K)) (.seq (.reg (s131n13 K)) (.block 1 (.loop [1, 3, 56, 57, 58] (.free [5] (.seq (.reg (s131n14 K)) (.seq (.cond (.t 59) (.skip) (.exit 1)) (.seq (.block 2 (.seq (.reg (s131n15 K)) (.reg (s131n16 K)))) (.reg (s131n17 K)))))))))))) (.seq (.reg (s131n18 K)) (.cond (.t 66) (.reg (s131n19 K)) (.seq (.reg (s131n20 K)) (.cond (.t 71) (.seq (.reg (s131n21 K)) (.reg (s131n22 K))) (.skip))))))))) (.seq (.reg (s131n23 K)) (.ret))))))))))
theorem ok131 (K : KTC) (K' : KT) (hK : CSound K K') : FitsC Tryz.prog K' (q131 K) r131.code := hs (p131n0 K _ hK) (hs (p131n1 K _ hK) (hs (p131n2 K _ hK) (hs (p131n3 K _ hK) (hs (p131n4 K _ hK) (hs (p131n5 K _ hK) (hs (p131n6 K _ hK) (hs (p131n7 K _ hK) (hs (hs (p131n8 K _ hK) (hb (hs (p131n9 K _ hK) (hc (hs (p131n10 K _ hK) (hs (p131n11 K _ hK) (hs (p131n12 K _ hK) (hs (p131n13 K _ hK) (hb (hl (by decide +kernel) (hf (hs (p131n14 K _ hK) (hs (hc (hk) (hx)) (hs (hb (hs (p131n15 K _ hK) (p131n16 K _ hK))) (p131n17 K _ hK))))))))))) (hs (p131n18 K _ hK) (hc (p131n19 K _ hK) (hs (p131n20 K _ hK) (hc (hs (p131n21 K _ hK) (p131n22 K _ hK)) (hk))))))))) (hs (p131n23 K _ hK) (hr))))))))))
noncomputable def g131 : HFn Tryz.prog := ⟨r131, q131, ok131⟩
theorem c131 : chkF Tryz.prog Tryz.f131 r131 = true := by decide +kernel

/-- (*doubletake/window.Window).Any -/
def r132 : RFn := ⟨1,
  .seq (
  .reg [⟨(some 2), none, (.q (.mov (.k (.bool false))))⟩] [0]) (
  .seq (
  .reg [⟨(some 3), none, (.q (.mov (.t 0)))⟩,
    ⟨(some 4), none, (.q (.nchk (.t 3)))⟩,
    ⟨(some 5), none, (.q (.fld 0 0 (.t 4)))⟩,
    ⟨(some 6), none, (.rd (.ld false 1 (.t 5)))⟩,
    ⟨(some 2), none, (.q (.mov (.t 6)))⟩] [2]) (
  .ret)),
  [.tmp 2], []⟩
noncomputable def g132 : HFn Tryz.prog := ⟨r132, fun K => wslow Tryz.prog K r132.code, fun _ _ hK => wslow_fits hK _ (by decide +kernel)⟩
theorem c132 : chkF Tryz.prog Tryz.f132 r132 = true := by decide +kernel

/-- (*doubletake/window.Window).Last -/
def r133 : RFn := ⟨1,
  .seq (
  .reg [⟨(some 2), none, (.q (.mov (.k (.int .i64 0))))⟩] [0]) (
  .seq (
  .reg [⟨(some 3), none, (.q (.mov (.t 0)))⟩,
    ⟨(some 4), none, (.q (.nchk (.t 3)))⟩,
    ⟨(some 5), none, (.q (.fld 1 1 (.t 4)))⟩,
    ⟨(some 6), none, (.rd (.ld false 1 (.t 5)))⟩,
    ⟨(some 2), none, (.q (.mov (.t 6)))⟩] [2]) (
  .ret)),
  [.tmp 2], []⟩
noncomputable def g133 : HFn Tryz.prog := ⟨r133, fun K => wslow Tryz.prog K r133.code, fun _ _ hK => wslow_fits hK _ (by decide +kernel)⟩
theorem c133 : chkF Tryz.prog Tryz.f133 r133 = true := by decide +kernel

/-- (*doubletake/window.Window).Bits -/
def r134 : RFn := ⟨1,
  .seq (
  .reg [⟨(some 2), none, (.q (.mov (.k (.int .u64 0))))⟩] [0]) (
  .seq (
  .reg [⟨(some 3), none, (.q (.mov (.t 0)))⟩,
    ⟨(some 4), none, (.q (.nchk (.t 3)))⟩,
    ⟨(some 5), none, (.q (.fld 2 2 (.t 4)))⟩,
    ⟨(some 6), none, (.rd (.ld false 1 (.t 5)))⟩,
    ⟨(some 2), none, (.q (.mov (.t 6)))⟩] [2]) (
  .ret)),
  [.tmp 2], []⟩
noncomputable def g134 : HFn Tryz.prog := ⟨r134, fun K => wslow Tryz.prog K r134.code, fun _ _ hK => wslow_fits hK _ (by decide +kernel)⟩
theorem c134 : chkF Tryz.prog Tryz.f134 r134 = true := by decide +kernel

/-- doubletake/seq.Next -/
def r135 : RFn := ⟨1,
  .seq (
  .reg [⟨(some 2), none, (.q (.mov (.k (.int .i64 0))))⟩] [0]) (
  .seq (
  .reg [⟨(some 3), none, (.q (.mov (.t 0)))⟩,
    ⟨(some 4), none, (.ac (.callf 183 [(.t 3)]))⟩,
    ⟨(some 5), none, (.q (.bin .add 3 (.t 4) (.k (.int .i64 1))))⟩,
    ⟨(some 6), none, (.ac (.callf 183 [(.t 5)]))⟩,
    ⟨(some 2), none, (.q (.mov (.t 6)))⟩] [2]) (
  .ret)),
  [.tmp 2], []⟩
noncomputable def g135 : HFn Tryz.prog := ⟨r135, fun K => wslow Tryz.prog K r135.code, fun _ _ hK => wslow_fits hK _ (by decide +kernel)⟩
theorem c135 : chkF Tryz.prog Tryz.f135 r135 = true := by decide +kernel

/-- doubletake/link.clipped -/
def r136 : RFn := ⟨1,
  .seq (
  .reg [⟨(some 2), none, (.q (.mov (.k (.int .i64 0))))⟩] [0]) (
  .seq (
  .reg [⟨(some 3), none, (.q (.mov (.t 0)))⟩,
    ⟨(some 4), none, (.q (.mm false [(.t 3), (.k (.int .i64 1000000))]))⟩,
    ⟨(some 5), none, (.q (.mm true [(.k (.int .i64 0)), (.t 4)]))⟩,
    ⟨(some 2), none, (.q (.mov (.t 5)))⟩] [2]) (
  .ret)),
  [.tmp 2], []⟩
noncomputable def g136 : HFn Tryz.prog := ⟨r136, fun K => wslow Tryz.prog K r136.code, fun _ _ hK => wslow_fits hK _ (by decide +kernel)⟩
theorem c136 : chkF Tryz.prog Tryz.f136 r136 = true := by decide +kernel

/-- slices.Clone[[]doubletake/link.sent,doubletake/link.sent] -/
def r137 : RFn := ⟨1,
  .seq (
  .reg [⟨(some 2), none, (.q (.mov .nils))⟩] [0]) (
  .seq (
  .seq (
  .reg [⟨(some 3), none, (.q (.mov (.t 0)))⟩,
    ⟨(some 4), none, (.q (.nil 1 false (.t 3)))⟩] [0, 4]) (
  .cond (.t 4) (
   .seq (
   .reg [⟨(some 2), none, (.q (.mov .nils))⟩] [2]) (
   .ret)) (
   .skip))) (
  .seq (
  .reg [⟨(some 5), none, (.al (.bldS 2 0 (.agg [1, 1] [(.sc (.int .i64 0)), (.sc (.int .i64 0))]) []))⟩,
    ⟨(some 6), none, (.q (.mov (.t 0)))⟩,
    ⟨(some 7), none, (.ac (.app false 2 16 (.t 5) (.t 6)))⟩,
    ⟨(some 2), none, (.q (.mov (.t 7)))⟩] [2]) (
  .ret))),
  [.tmp 2], []⟩
noncomputable def g137 : HFn Tryz.prog := ⟨r137, fun K => wslow Tryz.prog K r137.code, fun _ _ hK => wslow_fits hK _ (by decide +kernel)⟩
theorem c137 : chkF Tryz.prog Tryz.f137 r137 = true := by decide +kernel

end Go.AM
