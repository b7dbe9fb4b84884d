import Derived.Test.YtpkmlogclnjijaaGreatAm43
/-! The resolved form of the program's functions, written by program. -/
set_option linter.unusedVariables false
namespace Go.AM
open Go.Proofs

/-- doubletake/doubletakeref11.Legal -/
def r138 : RFn := ⟨1,
  .seq (
  .reg [⟨(some 1), none, (.al (.box (.t 0)))⟩,
    ⟨(some 2), none, (.q (.mov (.k (.bool false))))⟩] [1]) (
  .seq (
  .seq (
  .reg [⟨(some 3), none, (.q (.mov (.k (.int .i64 0))))⟩] [1, 3]) (
  .block 0 (
   .loop [1, 3] (
    .seq (
    .seq (
    .reg [⟨(some 5), none, (.q (.mov (.t 3)))⟩,
      ⟨(some 6), none, (.q (.fld 9 9 (.t 1)))⟩,
      ⟨(some 7), none, (.rd (.ld false 1 (.t 6)))⟩,
      ⟨(some 8), none, (.q (.len false (.t 7)))⟩,
      ⟨(some 9), none, (.q (.bin .lss 3 (.t 5) (.t 8)))⟩] [1, 3, 9]) (
    .cond (.t 9) (
     .skip) (
     .exit 0))) (
    .seq (
    .block 1 (
     .seq (
     .seq (
     .reg [⟨(some 4), none, (.q (.mov (.k (.int .i64 0))))⟩] [1, 3, 4]) (
     .block 2 (
      .loop [1, 3, 4] (
       .seq (
       .seq (
       .reg [⟨(some 12), none, (.q (.mov (.t 4)))⟩,
         ⟨(some 13), none, (.q (.mov (.t 3)))⟩,
         ⟨(some 14), none, (.q (.bin .lss 3 (.t 12) (.t 13)))⟩] [1, 3, 4, 14]) (
       .cond (.t 14) (
        .skip) (
        .exit 2))) (
       .seq (
       .block 3 (
        .seq (
        .draw [(0, ⟨(some 17), none, (.q (.fld 9 9 (.t 1)))⟩, 0),
          (1, ⟨(some 18), none, (.rd (.ld false 1 (.t 17)))⟩, 0),
          (2, ⟨(some 19), none, (.q (.mov (.t 4)))⟩, 0),
          (3, ⟨(some 20), none, (.q (.ixs 1 (.t 18) (.t 19)))⟩, 0),
          (4, ⟨(some 21), none, (.rd (.ld false 1 (.t 20)))⟩, 0),
          (5, ⟨(some 22), none, (.q (.fld 9 9 (.t 1)))⟩, 0),
          (6, ⟨(some 23), none, (.rd (.ld false 1 (.t 22)))⟩, 0),
          (7, ⟨(some 24), none, (.q (.mov (.t 3)))⟩, 0),
          (8, ⟨(some 25), none, (.q (.ixs 1 (.t 23) (.t 24)))⟩, 0),
          (9, ⟨(some 26), none, (.rd (.ld false 1 (.t 25)))⟩, 0),
          (10, ⟨(some 27), none, (.q (.bin .eql 3 (.t 21) (.t 26)))⟩, 0)] [1, 3, 4, 27]) (
        .cond (.t 27) (
         .seq (
         .reg [⟨(some 2), none, (.q (.mov (.k (.bool false))))⟩] [1, 2]) (
         .ret)) (
         .skip)))) (
       .reg [⟨(some 15), none, (.q (.mov (.t 4)))⟩,
         ⟨(some 16), none, (.q (.bin .add 3 (.t 15) (.k (.int .i64 1))))⟩,
         ⟨(some 4), none, (.q (.mov (.t 16)))⟩] [1, 3, 4])))))) (
     .seq (
     .reg [⟨(some 28), none, (.q (.fld 9 9 (.t 1)))⟩,
       ⟨(some 29), none, (.rd (.ld false 1 (.t 28)))⟩,
       ⟨(some 30), none, (.q (.mov (.t 3)))⟩,
       ⟨(some 31), none, (.q (.ixs 1 (.t 29) (.t 30)))⟩,
       ⟨(some 32), none, (.rd (.ld false 1 (.t 31)))⟩,
       ⟨(some 33), none, (.ac (.callf 139 [(.t 32), (.k (.int .i64 0)), (.k (.int .i64 2147483646))]))⟩,
       ⟨(some 34), none, (.q (.un .not (.t 33)))⟩] [1, 3, 34]) (
     .cond (.t 34) (
      .seq (
      .reg [⟨(some 2), none, (.q (.mov (.k (.bool false))))⟩] [1, 2]) (
      .ret)) (
      .skip))))) (
    .reg [⟨(some 10), none, (.q (.mov (.t 3)))⟩,
      ⟨(some 11), none, (.q (.bin .add 3 (.t 10) (.k (.int .i64 1))))⟩,
      ⟨(some 3), none, (.q (.mov (.t 11)))⟩] [1, 3])))))) (
  .seq (
  .reg [⟨(some 35), none, (.q (.fld 0 0 (.t 1)))⟩,
    ⟨(some 36), none, (.rd (.ld false 1 (.t 35)))⟩,
    ⟨(some 37), none, (.ac (.callf 139 [(.t 36), (.k (.int .i64 1)), (.k (.int .i64 8))]))⟩,
    ⟨(some 38), none, (.q (.mov (.t 37)))⟩,
    ⟨(some 39), (some (38, true)), (.q (.fld 9 9 (.t 1)))⟩,
    ⟨(some 40), (some (38, true)), (.rd (.ld false 1 (.t 39)))⟩,
    ⟨(some 41), (some (38, true)), (.q (.len false (.t 40)))⟩,
    ⟨(some 42), (some (38, true)), (.q (.fld 0 0 (.t 1)))⟩,
    ⟨(some 43), (some (38, true)), (.rd (.ld false 1 (.t 42)))⟩,
    ⟨(some 44), (some (38, true)), (.q (.bin .eql 3 (.t 41) (.t 43)))⟩,
    ⟨(some 45), none, (.q (.pick (.t 38) (.t 44) (.k (.bool false))))⟩,
    ⟨(some 46), none, (.q (.mov (.t 45)))⟩,
    ⟨(some 47), (some (46, true)), (.q (.fld 1 1 (.t 1)))⟩,
    ⟨(some 48), (some (46, true)), (.rd (.ld false 1 (.t 47)))⟩,
    ⟨(some 49), (some (46, true)), (.ac (.callf 139 [(.t 48), (.k (.int .i64 1)), (.k (.int .i64 8))]))⟩,
    ⟨(some 50), none, (.q (.pick (.t 46) (.t 49) (.k (.bool false))))⟩,
    ⟨(some 51), none, (.q (.mov (.t 50)))⟩,
    ⟨(some 52), (some (51, true)), (.q (.fld 2 2 (.t 1)))⟩,
    ⟨(some 53), (some (51, true)), (.rd (.ld false 1 (.t 52)))⟩,
    ⟨(some 54), (some (51, true)), (.ac (.callf 139 [(.t 53), (.k (.int .i64 0)), (.k (.int .i64 60))]))⟩,
    ⟨(some 55), none, (.q (.pick (.t 51) (.t 54) (.k (.bool false))))⟩,
    ⟨(some 56), none, (.q (.mov (.t 55)))⟩,
    ⟨(some 57), (some (56, true)), (.q (.fld 3 3 (.t 1)))⟩,
    ⟨(some 58), (some (56, true)), (.rd (.ld false 1 (.t 57)))⟩,
    ⟨(some 59), (some (56, true)), (.ac (.callf 139 [(.t 58), (.k (.int .i64 0)), (.k (.int .i64 100))]))⟩,
    ⟨(some 60), none, (.q (.pick (.t 56) (.t 59) (.k (.bool false))))⟩,
    ⟨(some 61), none, (.q (.mov (.t 60)))⟩,
    ⟨(some 62), (some (61, true)), (.q (.fld 4 4 (.t 1)))⟩,
    ⟨(some 63), (some (61, true)), (.rd (.ld false 1 (.t 62)))⟩,
    ⟨(some 64), (some (61, true)), (.ac (.callf 139 [(.t 63), (.k (.int .i64 1)), (.k (.int .i64 600))]))⟩,
    ⟨(some 65), none, (.q (.pick (.t 61) (.t 64) (.k (.bool false))))⟩,
    ⟨(some 66), none, (.q (.mov (.t 65)))⟩,
    ⟨(some 67), (some (66, true)), (.q (.fld 5 5 (.t 1)))⟩,
    ⟨(some 68), (some (66, true)), (.rd (.ld false 1 (.t 67)))⟩,
    ⟨(some 69), (some (66, true)), (.ac (.callf 139 [(.t 68), (.k (.int .i64 0)), (.k (.int .i64 2147483647))]))⟩,
    ⟨(some 70), none, (.q (.pick (.t 66) (.t 69) (.k (.bool false))))⟩,
    ⟨(some 71), none, (.q (.mov (.t 70)))⟩,
    ⟨(some 72), (some (71, true)), (.q (.fld 6 6 (.t 1)))⟩,
    ⟨(some 73), (some (71, true)), (.rd (.ld false 1 (.t 72)))⟩,
    ⟨(some 74), (some (71, true)), (.q (.fld 7 7 (.t 1)))⟩,
    ⟨(some 75), (some (71, true)), (.rd (.ld false 1 (.t 74)))⟩,
    ⟨(some 76), (some (71, true)), (.ac (.callf 184 [(.t 73), (.t 75)]))⟩,
    ⟨(some 77), none, (.q (.pick (.t 71) (.t 76) (.k (.bool false))))⟩,
    ⟨(some 78), none, (.q (.mov (.t 77)))⟩,
    ⟨(some 79), (some (78, true)), (.q (.fld 8 8 (.t 1)))⟩,
    ⟨(some 80), (some (78, true)), (.rd (.ld false 1 (.t 79)))⟩,
    ⟨(some 81), (some (78, true)), (.ac (.callf 185 [(.t 80)]))⟩,
    ⟨(some 82), none, (.q (.pick (.t 78) (.t 81) (.k (.bool false))))⟩,
    ⟨(some 2), none, (.q (.mov (.t 82)))⟩] [1, 2]) (
  .ret))),
  [.tmp 2], [1]⟩
noncomputable def g138 : HFn Tryz.prog := ⟨r138, fun K => wslow Tryz.prog K r138.code, fun _ _ hK => wslow_fits hK _ (by decide +kernel)⟩
theorem c138 : chkF Tryz.prog Tryz.f138 r138 = true := by decide +kernel

/-! doubletake/doubletakeref11.is -/
def o139n0 : List RI := [⟨(some 6), none, (.q (.mov (.k (.bool false))))⟩]
noncomputable def b139n0 (K : KTC) (k : KS) (a0 a1 a2 : AV) (c : KN) (p : KV) : Kr :=
  c [(0, a0), (1, a1), (2, a2)] k
theorem e139n0 (K : KTC) (k : KS) (a0 a1 a2 : AV) (c : KN) (p : KV) : b139n0 K k a0 a1 a2 c p = wReg Tryz.prog K [0, 1, 2] o139n0 [(0, a0), (1, a1), (2, a2)] k c p := by unfold b139n0; kernel_rfl
noncomputable def s139n0 (K : KTC) (e : Env) (k : KS) (c : KN) (p : KV) : Kr := gt e 0 fun a0 => gt e 1 fun a1 => gt e 2 fun a2 => b139n0 K k a0 a1 a2 c p
theorem p139n0 (K : KTC) (K' : KT) (hK : CSound K K') : FitsC Tryz.prog K' (.reg (s139n0 K)) (.reg o139n0 [0, 1, 2]) := fun e k c p y h => by
  obtain ⟨a0, h0, h⟩ := gt_some h
  obtain ⟨a1, h1, h⟩ := gt_some h
  obtain ⟨a2, h2, h⟩ := gt_some h
  exact wreg_fit hK (by decide +kernel) (keep_cons h0 (keep_cons h1 (keep_cons h2 (keep_nil)))) (e139n0 K k a0 a1 a2 c p) h
def o139n1 : List RI := [⟨(some 7), none, (.q (.mov (.t 0)))⟩, ⟨(some 8), none, (.q (.mov (.t 1)))⟩, ⟨(some 9), none, (.q (.bin .geq 3 (.t 7) (.t 8)))⟩, ⟨(some 10), none, (.q (.mov (.t 9)))⟩, ⟨(some 11), (some (10, true)), (.q (.mov (.t 0)))⟩, ⟨(some 12), (some (10, true)), (.q (.mov (.t 2)))⟩, ⟨(some 13), (some (10, true)), (.q (.bin .leq 3 (.t 11) (.t 12)))⟩, ⟨(some 14), none, (.q (.pick (.t 10) (.t 13) (.k (.bool false))))⟩, ⟨(some 6), none, (.q (.mov (.t 14)))⟩]
def r139 : RFn := ⟨3, .seq (.reg o139n0 [0, 1, 2]) (.seq (.reg o139n1 [6]) (.ret)), [.tmp 6], []⟩
noncomputable def q139 (K : KTC) : FK := .seq (.reg (s139n0 K)) (.seq (.reg fun e k c p => wReg Tryz.prog K [6] o139n1 e k c p) (.ret))
theorem ok139 (K : KTC) (K' : KT) (hK : CSound K K') : FitsC Tryz.prog K' (q139 K) r139.code := hs (p139n0 K _ hK) (hs (wslow_reg hK) (hr))
noncomputable def g139 : HFn Tryz.prog := ⟨r139, q139, ok139⟩
theorem c139 : chkF Tryz.prog Tryz.f139 r139 = true := by decide +kernel

/-! doubletake/doubletakeref11.RightBody -/
def o140n0 : List RI := [⟨(some 1), none, (.al (.box (.t 0)))⟩, ⟨(some 2), none, (.q (.mov (.k (.bool false))))⟩]
noncomputable def b140n0 (K : KTC) (k : KS) (a0 : AV) (c : KN) (p : KV) : Kr :=
  pAl (evAl [(0, a0)] k.nx (.box (.t 0))) k fun v0 k0 =>
  c [(1, v0)] k0
theorem e140n0 (K : KTC) (k : KS) (a0 : AV) (c : KN) (p : KV) : b140n0 K k a0 c p = wReg Tryz.prog K [1] o140n0 [(0, a0)] k c p := by unfold b140n0; kernel_rfl
noncomputable def s140n0 (K : KTC) (e : Env) (k : KS) (c : KN) (p : KV) : Kr := gt e 0 fun a0 => b140n0 K k a0 c p
theorem p140n0 (K : KTC) (K' : KT) (hK : CSound K K') : FitsC Tryz.prog K' (.reg (s140n0 K)) (.reg o140n0 [1]) := fun e k c p y h => by
  obtain ⟨a0, h0, h⟩ := gt_some h
  exact wreg_fit hK (by decide +kernel) (keep_cons h0 (keep_nil)) (e140n0 K k a0 c p) h
def o140n1 : List RI := [⟨(some 4), none, (.q (.fld 0 0 (.t 1)))⟩, ⟨(some 5), none, (.rd (.ld false 1 (.t 4)))⟩, ⟨(some 6), none, (.q (.bin .eql 3 (.t 5) (.k (.int .i64 0))))⟩]
noncomputable def b140n1 (K : KTC) (k : KS) (a1 : AV) (c : KN) (p : KV) : Kr :=
  xFld 0 0 a1 fun v0 =>
  xLd k.t false 1 v0 fun v1 =>
  xEql 3 v1 (.sc (.int .i64 0)) fun v2 =>
  c [(1, a1), (6, v2)] k
theorem e140n1 (K : KTC) (k : KS) (a1 : AV) (c : KN) (p : KV) : b140n1 K k a1 c p = wReg Tryz.prog K [1, 6] o140n1 [(1, a1)] k c p := by unfold b140n1; simp only [xEql_eq, xLd_eq, xFld_eq]; kernel_rfl
noncomputable def s140n1 (K : KTC) (e : Env) (k : KS) (c : KN) (p : KV) : Kr := gt e 1 fun a1 => b140n1 K k a1 c p
theorem p140n1 (K : KTC) (K' : KT) (hK : CSound K K') : FitsC Tryz.prog K' (.reg (s140n1 K)) (.reg o140n1 [1, 6]) := fun e k c p y h => by
  obtain ⟨a1, h1, h⟩ := gt_some h
  exact wreg_fit hK (by decide +kernel) (keep_cons h1 (keep_nil)) (e140n1 K k a1 c p) h
def o140n2 : List RI := [⟨(some 7), none, (.rd (.ld true 12 (.t 1)))⟩, ⟨(some 8), none, (.q (.bld (.agg [1, 1, 1, 1, 1, 1, 1, 4, 1] [(.sc (.int .i64 0)), (.sc (.int .i64 0)), (.sc (.int .i64 0)), (.sc (.int .i64 0)), (.sc (.int .i64 0)), (.sc (.int .i64 0)), (.sc (.int .i64 0)), (.arr 1 (List.replicate 4 (.sc (.int .i64 0)))), (.sc (.int .i64 0))]) []))⟩, ⟨(some 9), none, (.q (.bin .eql 53 (.t 7) (.t 8)))⟩, ⟨(some 2), none, (.q (.mov (.t 9)))⟩]
noncomputable def b140n2 (K : KTC) (k : KS) (a1 : AV) (c : KN) (p : KV) : Kr :=
  xLd k.t true 12 a1 fun v0 =>
  (kQ Tryz.prog [] (.bld (.agg [1, 1, 1, 1, 1, 1, 1, 4, 1] [(.sc (.int .i64 0)), (.sc (.int .i64 0)), (.sc (.int .i64 0)), (.sc (.int .i64 0)), (.sc (.int .i64 0)), (.sc (.int .i64 0)), (.sc (.int .i64 0)), (.arr 1 (List.replicate 4 (.sc (.int .i64 0)))), (.sc (.int .i64 0))]) [])).bind fun v1 =>
  xEql 53 v0 v1 fun v2 =>
  c [(1, a1), (2, v2)] k
theorem e140n2 (K : KTC) (k : KS) (a1 : AV) (c : KN) (p : KV) : b140n2 K k a1 c p = wReg Tryz.prog K [1, 2] o140n2 [(1, a1)] k c p := by unfold b140n2; simp only [xEql_eq, xLd_eq]; kernel_rfl
noncomputable def s140n2 (K : KTC) (e : Env) (k : KS) (c : KN) (p : KV) : Kr := gt e 1 fun a1 => b140n2 K k a1 c p
theorem p140n2 (K : KTC) (K' : KT) (hK : CSound K K') : FitsC Tryz.prog K' (.reg (s140n2 K)) (.reg o140n2 [1, 2]) := fun e k c p y h => by
  obtain ⟨a1, h1, h⟩ := gt_some h
  exact wreg_fit hK (by decide +kernel) (keep_cons h1 (keep_nil)) (e140n2 K k a1 c p) h
def o140n3 : List RI := [⟨(some 3), none, (.q (.mov (.k (.int .i64 0))))⟩]
noncomputable def b140n3 (K : KTC) (k : KS) (a1 : AV) (c : KN) (p : KV) : Kr :=
  c [(1, a1), (3, (.sc (.int .i64 0)))] k
theorem e140n3 (K : KTC) (k : KS) (a1 : AV) (c : KN) (p : KV) : b140n3 K k a1 c p = wReg Tryz.prog K [1, 3] o140n3 [(1, a1)] k c p := by unfold b140n3; kernel_rfl
noncomputable def s140n3 (K : KTC) (e : Env) (k : KS) (c : KN) (p : KV) : Kr := gt e 1 fun a1 => b140n3 K k a1 c p
theorem p140n3 (K : KTC) (K' : KT) (hK : CSound K K') : FitsC Tryz.prog K' (.reg (s140n3 K)) (.reg o140n3 [1, 3]) := fun e k c p y h => by
  obtain ⟨a1, h1, h⟩ := gt_some h
  exact wreg_fit hK (by decide +kernel) (keep_cons h1 (keep_nil)) (e140n3 K k a1 c p) h
def o140n4 : List RI := [⟨(some 10), none, (.q (.mov (.t 3)))⟩, ⟨(some 11), none, (.q (.bin .lss 3 (.t 10) (.k (.int .i64 4))))⟩]
noncomputable def b140n4 (K : KTC) (k : KS) (a3 a1 : AV) (c : KN) (p : KV) : Kr :=
  xLss 3 a3 (.sc (.int .i64 4)) fun v0 =>
  c [(1, a1), (3, a3), (11, v0)] k
theorem e140n4 (K : KTC) (k : KS) (a3 a1 : AV) (c : KN) (p : KV) : b140n4 K k a3 a1 c p = wReg Tryz.prog K [1, 3, 11] o140n4 [(3, a3), (1, a1)] k c p := by unfold b140n4; simp only [xLss_eq]; kernel_rfl
noncomputable def s140n4 (K : KTC) (e : Env) (k : KS) (c : KN) (p : KV) : Kr := gt e 3 fun a3 => gt e 1 fun a1 => b140n4 K k a3 a1 c p
theorem p140n4 (K : KTC) (K' : KT) (hK : CSound K K') : FitsC Tryz.prog K' (.reg (s140n4 K)) (.reg o140n4 [1, 3, 11]) := fun e k c p y h => by
  obtain ⟨a3, h3, h⟩ := gt_some h
  obtain ⟨a1, h1, h⟩ := gt_some h
  exact wreg_fit hK (by decide +kernel) (keep_cons h3 (keep_cons h1 (keep_nil))) (e140n4 K k a3 a1 c p) h
def o140n5 : List RI := [⟨(some 14), none, (.q (.mov (.t 3)))⟩, ⟨(some 15), none, (.q (.fld 7 7 (.t 1)))⟩, ⟨(some 16), none, (.q (.ixa 4 1 (.t 15) (.t 14)))⟩, ⟨(some 17), none, (.rd (.ld false 1 (.t 16)))⟩, ⟨(some 18), none, (.ac (.callf 139 [(.t 17), (.k (.int .i64 (-1000000))), (.k (.int .i64 1000000))]))⟩, ⟨(some 19), none, (.q (.un .not (.t 18)))⟩]
noncomputable def b140n5 (K : KTC) (k : KS) (a3 a1 : AV) (c : KN) (p : KV) : Kr :=
  xFld 7 7 a1 fun v0 =>
  (kQ Tryz.prog [(15, v0), (14, a3)] (.ixa 4 1 (.t 15) (.t 14))).bind fun v1 =>
  xLd k.t false 1 v1 fun v2 =>
  K 139 [v2, (.sc (.int .i64 (-1000000))), (.sc (.int .i64 1000000))] k (fun v3 k3 =>
  (kQ Tryz.prog [(18, v3)] (.un .not (.t 18))).bind fun v4 =>
  c [(1, a1), (3, a3), (19, v4)] k3) (p)
theorem e140n5 (K : KTC) (k : KS) (a3 a1 : AV) (c : KN) (p : KV) : b140n5 K k a3 a1 c p = wReg Tryz.prog K [1, 3, 19] o140n5 [(3, a3), (1, a1)] k c p := by unfold b140n5; simp only [xLd_eq, xFld_eq]; kernel_rfl
noncomputable def s140n5 (K : KTC) (e : Env) (k : KS) (c : KN) (p : KV) : Kr := gt e 3 fun a3 => gt e 1 fun a1 => b140n5 K k a3 a1 c p
theorem p140n5 (K : KTC) (K' : KT) (hK : CSound K K') : FitsC Tryz.prog K' (.reg (s140n5 K)) (.reg o140n5 [1, 3, 19]) := fun e k c p y h => by
  obtain ⟨a3, h3, h⟩ := gt_some h
  obtain ⟨a1, h1, h⟩ := gt_some h
  exact wreg_fit hK (by decide +kernel) (keep_cons h3 (keep_cons h1 (keep_nil))) (e140n5 K k a3 a1 c p) h
def o140n6 : List RI := [⟨(some 2), none, (.q (.mov (.k (.bool false))))⟩]
noncomputable def b140n6 (K : KTC) (k : KS) (a1 : AV) (c : KN) (p : KV) : Kr :=
  c [(1, a1), (2, (.sc (.bool false)))] k
theorem e140n6 (K : KTC) (k : KS) (a1 : AV) (c : KN) (p : KV) : b140n6 K k a1 c p = wReg Tryz.prog K [1, 2] o140n6 [(1, a1)] k c p := by unfold b140n6; kernel_rfl
noncomputable def s140n6 (K : KTC) (e : Env) (k : KS) (c : KN) (p : KV) : Kr := gt e 1 fun a1 => b140n6 K k a1 c p
theorem p140n6 (K : KTC) (K' : KT) (hK : CSound K K') : FitsC Tryz.prog K' (.reg (s140n6 K)) (.reg o140n6 [1, 2]) := fun e k c p y h => by
  obtain ⟨a1, h1, h⟩ := gt_some h
  exact wreg_fit hK (by decide +kernel) (keep_cons h1 (keep_nil)) (e140n6 K k a1 c p) h
def o140n7 : List RI := [⟨(some 12), none, (.q (.mov (.t 3)))⟩, ⟨(some 13), none, (.q (.bin .add 3 (.t 12) (.k (.int .i64 1))))⟩, ⟨(some 3), none, (.q (.mov (.t 13)))⟩]
noncomputable def b140n7 (K : KTC) (k : KS) (a3 a1 : AV) (c : KN) (p : KV) : Kr :=
  xAdd 3 a3 (.sc (.int .i64 1)) fun v0 =>
  c [(1, a1), (3, v0)] k
theorem e140n7 (K : KTC) (k : KS) (a3 a1 : AV) (c : KN) (p : KV) : b140n7 K k a3 a1 c p = wReg Tryz.prog K [1, 3] o140n7 [(3, a3), (1, a1)] k c p := by unfold b140n7; simp only [xAdd_eq]; kernel_rfl
noncomputable def s140n7 (K : KTC) (e : Env) (k : KS) (c : KN) (p : KV) : Kr := gt e 3 fun a3 => gt e 1 fun a1 => b140n7 K k a3 a1 c p
theorem p140n7 (K : KTC) (K' : KT) (hK : CSound K K') : FitsC Tryz.prog K' (.reg (s140n7 K)) (.reg o140n7 [1, 3]) := fun e k c p y h => by
  obtain ⟨a3, h3, h⟩ := gt_some h
  obtain ⟨a1, h1, h⟩ := gt_some h
  exact wreg_fit hK (by decide +kernel) (keep_cons h3 (keep_cons h1 (keep_nil))) (e140n7 K k a3 a1 c p) h
def o140n8 : List RI := [⟨(some 20), none, (.q (.fld 0 0 (.t 1)))⟩, ⟨(some 21), none, (.rd (.ld false 1 (.t 20)))⟩, ⟨(some 22), none, (.q (.bin .eql 3 (.t 21) (.k (.int .i64 1))))⟩, ⟨(some 23), none, (.q (.mov (.t 22)))⟩, ⟨(some 24), (some (23, false)), (.q (.fld 0 0 (.t 1)))⟩, ⟨(some 25), (some (23, false)), (.rd (.ld false 1 (.t 24)))⟩, ⟨(some 26), (some (23, false)), (.q (.bin .eql 3 (.t 25) (.k (.int .i64 2))))⟩, ⟨(some 27), none, (.q (.pick (.t 23) (.k (.bool true)) (.t 26)))⟩, ⟨(some 28), none, (.q (.mov (.t 27)))⟩, ⟨(some 29), (some (28, true)), (.q (.fld 1 1 (.t 1)))⟩, ⟨(some 30), (some (28, true)), (.rd (.ld false 1 (.t 29)))⟩, ⟨(some 31), (some (28, true)), (.ac (.callf 139 [(.t 30), (.k (.int .i64 0)), (.k (.int .i64 7))]))⟩, ⟨(some 32), none, (.q (.pick (.t 28) (.t 31) (.k (.bool false))))⟩, ⟨(some 33), none, (.q (.mov (.t 32)))⟩, ⟨(some 34), (some (33, true)), (.q (.fld 2 2 (.t 1)))⟩, ⟨(some 35), (some (33, true)), (.rd (.ld false 1 (.t 34)))⟩, ⟨(some 36), (some (33, true)), (.ac (.callf 139 [(.t 35), (.k (.int .i64 0)), (.k (.int .i64 4095))]))⟩, ⟨(some 37), none, (.q (.pick (.t 33) (.t 36) (.k (.bool false))))⟩, ⟨(some 38), none, (.q (.mov (.t 37)))⟩, ⟨(some 39), (some (38, true)), (.q (.fld 3 3 (.t 1)))⟩, ⟨(some 40), (some (38, true)), (.rd (.ld false 1 (.t 39)))⟩, ⟨(some 41), (some (38, true)), (.ac (.callf 139 [(.t 40), (.k (.int .i64 0)), (.k (.int .i64 4095))]))⟩, ⟨(some 42), none, (.q (.pick (.t 38) (.t 41) (.k (.bool false))))⟩, ⟨(some 43), none, (.q (.mov (.t 42)))⟩, ⟨(some 44), (some (43, true)), (.q (.fld 4 4 (.t 1)))⟩, ⟨(some 45), (some (43, true)), (.rd (.ld false 1 (.t 44)))⟩, ⟨(some 46), (some (43, true)), (.ac (.callf 139 [(.t 45), (.k (.int .i64 (-64))), (.k (.int .i64 64))]))⟩, ⟨(some 47), none, (.q (.pick (.t 43) (.t 46) (.k (.bool false))))⟩, ⟨(some 48), none, (.q (.mov (.t 47)))⟩, ⟨(some 49), (some (48, true)), (.q (.fld 5 5 (.t 1)))⟩, ⟨(some 50), (some (48, true)), (.rd (.ld false 1 (.t 49)))⟩, ⟨(some 51), (some (48, true)), (.ac (.callf 139 [(.t 50), (.k (.int .i64 (-64))), (.k (.int .i64 64))]))⟩, ⟨(some 52), none, (.q (.pick (.t 48) (.t 51) (.k (.bool false))))⟩, ⟨(some 53), none, (.q (.mov (.t 52)))⟩, ⟨(some 54), (some (53, true)), (.q (.fld 6 6 (.t 1)))⟩, ⟨(some 55), (some (53, true)), (.rd (.ld false 1 (.t 54)))⟩, ⟨(some 56), (some (53, true)), (.ac (.callf 139 [(.t 55), (.k (.int .i64 0)), (.k (.int .i64 600))]))⟩, ⟨(some 57), none, (.q (.pick (.t 53) (.t 56) (.k (.bool false))))⟩, ⟨(some 58), none, (.q (.mov (.t 57)))⟩, ⟨(some 59), (some (58, true)), (.q (.fld 8 11 (.t 1)))⟩, ⟨(some 60), (some (58, true)), (.rd (.ld false 1 (.t 59)))⟩, ⟨(some 61), (some (58, true)), (.ac (.callf 139 [(.t 60), (.k (.int .i64 0)), (.k (.int .i64 65535))]))⟩, ⟨(some 62), none, (.q (.pick (.t 58) (.t 61) (.k (.bool false))))⟩, ⟨(some 2), none, (.q (.mov (.t 62)))⟩]
def r140 : RFn := ⟨1, .seq (.reg o140n0 [1]) (.seq (.seq (.reg o140n1 [1, 6]) (.cond (.t 6) (.seq (.reg o140n2 [1, 2]) (.ret)) (.skip))) (.seq (.seq (.reg o140n3 [1, 3]) (.block 0 (.loop [1, 3] (.seq (.seq (.reg o140n4 [1, 3, 11]) (.cond (.t 11) (.skip) (.exit 0))) (.seq (.block 1 (.seq (.reg o140n5 [1, 3, 19]) (.cond (.t 19) (.seq (.reg o140n6 [1, 2]) (.ret)) (.skip)))) (.reg o140n7 [1, 3])))))) (.seq (.reg o140n8 [1, 2]) (.ret)))), [.tmp 2], [1]⟩
noncomputable def q140 (K : KTC) : FK := .seq (.reg (s140n0 K)) (.seq (.seq (.reg (s140n1 K)) (.cond (.t 6) (.seq (.reg (s140n2 K)) (.ret)) (.skip))) (.seq (.seq (.reg (s140n3 K)) (.block 0 (.loop [1, 3] (.seq (.seq (.reg (s140n4 K)) (.cond (.t 11) (.skip) (.exit 0))) (.seq (.block 1 (.seq (.reg (s140n5 K)) (.cond (.t 19) (.seq (.reg (s140n6 K)) (.ret)) (.skip)))) (.reg (s140n7 K))))))) (.seq (.reg fun e k c p => wReg Tryz.prog K [1, 2] o140n8 e k c p) (.ret))))
theorem ok140 (K : KTC) (K' : KT) (hK : CSound K K') : FitsC Tryz.prog K' (q140 K) r140.code := hs (p140n0 K _ hK) (hs (hs (p140n1 K _ hK) (hc (hs (p140n2 K _ hK) (hr)) (hk))) (hs (hs (p140n3 K _ hK) (hb (hl (by decide +kernel) (hs (hs (p140n4 K _ hK) (hc (hk) (hx))) (hs (hb (hs (p140n5 K _ hK) (hc (hs (p140n6 K _ hK) (hr)) (hk)))) (p140n7 K _ hK)))))) (hs (wslow_reg hK) (hr))))
noncomputable def g140 : HFn Tryz.prog := ⟨r140, q140, ok140⟩
theorem c140 : chkF Tryz.prog Tryz.f140 r140 = true := by decide +kernel

/-! math.Abs -/
def o143n0 : List RI := [⟨(some 2), none, (.q (.mov (.k (.float .f64 0))))⟩]
noncomputable def b143n0 (K : KTC) (k : KS) (a0 : AV) (c : KN) (p : KV) : Kr :=
  c [(0, a0)] k
theorem e143n0 (K : KTC) (k : KS) (a0 : AV) (c : KN) (p : KV) : b143n0 K k a0 c p = wReg Tryz.prog K [0] o143n0 [(0, a0)] k c p := by unfold b143n0; kernel_rfl
noncomputable def s143n0 (K : KTC) (e : Env) (k : KS) (c : KN) (p : KV) : Kr := gt e 0 fun a0 => b143n0 K k a0 c p
theorem p143n0 (K : KTC) (K' : KT) (hK : CSound K K') : FitsC Tryz.prog K' (.reg (s143n0 K)) (.reg o143n0 [0]) := fun e k c p y h => by
  obtain ⟨a0, h0, h⟩ := gt_some h
  exact wreg_fit hK (by decide +kernel) (keep_cons h0 (keep_nil)) (e143n0 K k a0 c p) h
def o143n1 : List RI := [⟨(some 3), none, (.q (.mov (.t 0)))⟩, ⟨(some 4), none, (.q (.xf 188 [(.t 3)]))⟩, ⟨(some 5), none, (.q (.bin .andNot 39 (.t 4) (.k (.int .u64 9223372036854775808))))⟩, ⟨(some 6), none, (.q (.xf 187 [(.t 5)]))⟩, ⟨(some 2), none, (.q (.mov (.t 6)))⟩]
noncomputable def b143n1 (K : KTC) (k : KS) (a0 : AV) (c : KN) (p : KV) : Kr :=
  (kQ Tryz.prog [(3, a0)] (.xf 188 [(.t 3)])).bind fun v0 =>
  (kQ Tryz.prog [(4, v0)] (.bin .andNot 39 (.t 4) (.k (.int .u64 9223372036854775808)))).bind fun v1 =>
  (kQ Tryz.prog [(5, v1)] (.xf 187 [(.t 5)])).bind fun v2 =>
  c [(2, v2)] k
theorem e143n1 (K : KTC) (k : KS) (a0 : AV) (c : KN) (p : KV) : b143n1 K k a0 c p = wReg Tryz.prog K [2] o143n1 [(0, a0)] k c p := by unfold b143n1; kernel_rfl
noncomputable def s143n1 (K : KTC) (e : Env) (k : KS) (c : KN) (p : KV) : Kr := gt e 0 fun a0 => b143n1 K k a0 c p
theorem p143n1 (K : KTC) (K' : KT) (hK : CSound K K') : FitsC Tryz.prog K' (.reg (s143n1 K)) (.reg o143n1 [2]) := fun e k c p y h => by
  obtain ⟨a0, h0, h⟩ := gt_some h
  exact wreg_fit hK (by decide +kernel) (keep_cons h0 (keep_nil)) (e143n1 K k a0 c p) h
def r143 : RFn := ⟨1, .seq (.reg o143n0 [0]) (.seq (.reg o143n1 [2]) (.ret)), [.tmp 2], []⟩
noncomputable def q143 (K : KTC) : FK := .seq (.reg (s143n0 K)) (.seq (.reg (s143n1 K)) (.ret))
theorem ok143 (K : KTC) (K' : KT) (hK : CSound K K') : FitsC Tryz.prog K' (q143 K) r143.code := hs (p143n0 K _ hK) (hs (p143n1 K _ hK) (hr))
noncomputable def g143 : HFn Tryz.prog := ⟨r143, q143, ok143⟩
theorem c143 : chkF Tryz.prog Tryz.f143 r143 = true := by decide +kernel

/-! slices.Clone[[]byte,byte] -/
def o154n0 : List RI := [⟨(some 2), none, (.q (.mov .nils))⟩]
noncomputable def b154n0 (K : KTC) (k : KS) (a0 : AV) (c : KN) (p : KV) : Kr :=
  c [(0, a0)] k
theorem e154n0 (K : KTC) (k : KS) (a0 : AV) (c : KN) (p : KV) : b154n0 K k a0 c p = wReg Tryz.prog K [0] o154n0 [(0, a0)] k c p := by unfold b154n0; kernel_rfl
noncomputable def s154n0 (K : KTC) (e : Env) (k : KS) (c : KN) (p : KV) : Kr := gt e 0 fun a0 => b154n0 K k a0 c p
theorem p154n0 (K : KTC) (K' : KT) (hK : CSound K K') : FitsC Tryz.prog K' (.reg (s154n0 K)) (.reg o154n0 [0]) := fun e k c p y h => by
  obtain ⟨a0, h0, h⟩ := gt_some h
  exact wreg_fit hK (by decide +kernel) (keep_cons h0 (keep_nil)) (e154n0 K k a0 c p) h
def o154n1 : List RI := [⟨(some 3), none, (.q (.mov (.t 0)))⟩, ⟨(some 4), none, (.q (.nil 1 false (.t 3)))⟩]
noncomputable def b154n1 (K : KTC) (k : KS) (a0 : AV) (c : KN) (p : KV) : Kr :=
  xNil 1 false a0 fun v0 =>
  c [(0, a0), (4, v0)] k
theorem e154n1 (K : KTC) (k : KS) (a0 : AV) (c : KN) (p : KV) : b154n1 K k a0 c p = wReg Tryz.prog K [0, 4] o154n1 [(0, a0)] k c p := by unfold b154n1; simp only [xNil_eq]; kernel_rfl
noncomputable def s154n1 (K : KTC) (e : Env) (k : KS) (c : KN) (p : KV) : Kr := gt e 0 fun a0 => b154n1 K k a0 c p
theorem p154n1 (K : KTC) (K' : KT) (hK : CSound K K') : FitsC Tryz.prog K' (.reg (s154n1 K)) (.reg o154n1 [0, 4]) := fun e k c p y h => by
  obtain ⟨a0, h0, h⟩ := gt_some h
  exact wreg_fit hK (by decide +kernel) (keep_cons h0 (keep_nil)) (e154n1 K k a0 c p) h
def o154n2 : List RI := [⟨(some 2), none, (.q (.mov .nils))⟩]
noncomputable def b154n2 (K : KTC) (k : KS) (c : KN) (p : KV) : Kr :=
  c [(2, (.slice none 0))] k
theorem e154n2 (K : KTC) (k : KS) (c : KN) (p : KV) : b154n2 K k  c p = wReg Tryz.prog K [2] o154n2 [] k c p := by unfold b154n2; kernel_rfl
noncomputable def s154n2 (K : KTC) (e : Env) (k : KS) (c : KN) (p : KV) : Kr := b154n2 K k  c p
theorem p154n2 (K : KTC) (K' : KT) (hK : CSound K K') : FitsC Tryz.prog K' (.reg (s154n2 K)) (.reg o154n2 [2]) := fun e k c p y h => by
  exact wreg_fit hK (by decide +kernel) (keep_nil) (e154n2 K k  c p) h
def o154n3 : List RI := [⟨(some 5), none, (.al (.bldS 1 0 (.sc (.int .u8 0)) []))⟩, ⟨(some 6), none, (.q (.mov (.t 0)))⟩, ⟨(some 7), none, (.ac (.app false 1 1 (.t 5) (.t 6)))⟩, ⟨(some 2), none, (.q (.mov (.t 7)))⟩]
noncomputable def b154n3 (K : KTC) (k : KS) (a0 : AV) (c : KN) (p : KV) : Kr :=
  pAl (evAl [] k.nx (.bldS 1 0 (.sc (.int .u8 0)) [])) k fun v0 k0 =>
  pCall (kA (fun _ _ _ => none) [(5, v0), (6, a0)] k0 (.app false 1 1 (.t 5) (.t 6))) (fun v1 k1 =>
  c [(2, v1)] k1) (p)
theorem e154n3 (K : KTC) (k : KS) (a0 : AV) (c : KN) (p : KV) : b154n3 K k a0 c p = wReg Tryz.prog K [2] o154n3 [(0, a0)] k c p := by unfold b154n3; kernel_rfl
noncomputable def s154n3 (K : KTC) (e : Env) (k : KS) (c : KN) (p : KV) : Kr := gt e 0 fun a0 => b154n3 K k a0 c p
theorem p154n3 (K : KTC) (K' : KT) (hK : CSound K K') : FitsC Tryz.prog K' (.reg (s154n3 K)) (.reg o154n3 [2]) := fun e k c p y h => by
  obtain ⟨a0, h0, h⟩ := gt_some h
  exact wreg_fit hK (by decide +kernel) (keep_cons h0 (keep_nil)) (e154n3 K k a0 c p) h
def r154 : RFn := ⟨1, .seq (.reg o154n0 [0]) (.seq (.seq (.reg o154n1 [0, 4]) (.cond (.t 4) (.seq (.reg o154n2 [2]) (.ret)) (.skip))) (.seq (.reg o154n3 [2]) (.ret))), [.tmp 2], []⟩
noncomputable def q154 (K : KTC) : FK := .seq (.reg (s154n0 K)) (.seq (.seq (.reg (s154n1 K)) (.cond (.t 4) (.seq (.reg (s154n2 K)) (.ret)) (.skip))) (.seq (.reg (s154n3 K)) (.ret)))
theorem ok154 (K : KTC) (K' : KT) (hK : CSound K K') : FitsC Tryz.prog K' (q154 K) r154.code := hs (p154n0 K _ hK) (hs (hs (p154n1 K _ hK) (hc (hs (p154n2 K _ hK) (hr)) (hk))) (hs (p154n3 K _ hK) (hr)))
noncomputable def g154 : HFn Tryz.prog := ⟨r154, q154, ok154⟩
theorem c154 : chkF Tryz.prog Tryz.f154 r154 = true := by decide +kernel

/-- slices.ContainsFunc[[]doubletake/api.Op,doubletake/api.Op] -/
def r155 : RFn := ⟨2,
  .seq (
  .reg [⟨(some 4), none, (.q (.mov (.k (.bool false))))⟩] [0, 1]) (
  .seq (
  .reg [⟨(some 5), none, (.q (.mov (.t 0)))⟩,
    ⟨(some 6), none, (.q (.mov (.t 1)))⟩,
    ⟨(some 7), none, (.ac (.callf 194 [(.t 5), (.t 6)]))⟩,
    ⟨(some 8), none, (.q (.bin .geq 3 (.t 7) (.k (.int .i64 0))))⟩,
    ⟨(some 4), none, (.q (.mov (.t 8)))⟩] [4]) (
  .ret)),
  [.tmp 4], []⟩
noncomputable def g155 : HFn Tryz.prog := ⟨r155, fun K => wslow Tryz.prog K r155.code, fun _ _ hK => wslow_fits hK _ (by decide +kernel)⟩
theorem c155 : chkF Tryz.prog Tryz.f155 r155 = true := by decide +kernel

/-- doubletake/rule.Right$1 -/
def r156 : RFn := ⟨1,
  .seq (
  .reg [⟨(some 1), none, (.al (.box (.t 0)))⟩,
    ⟨(some 2), none, (.q (.mov (.k (.bool false))))⟩] [1]) (
  .seq (
  .reg [⟨(some 3), none, (.q (.fld 0 0 (.t 1)))⟩,
    ⟨(some 4), none, (.rd (.ld false 1 (.t 3)))⟩,
    ⟨(some 5), none, (.ac (.callf 157 [(.t 4), (.k (.int .i64 1)), (.k (.int .i64 13))]))⟩,
    ⟨(some 6), none, (.q (.un .not (.t 5)))⟩,
    ⟨(some 7), none, (.q (.mov (.t 6)))⟩,
    ⟨(some 8), (some (7, false)), (.q (.fld 1 1 (.t 1)))⟩,
    ⟨(some 9), (some (7, false)), (.rd (.ld false 1 (.t 8)))⟩,
    ⟨(some 10), (some (7, false)), (.ac (.callf 157 [(.t 9), (.k (.int .i64 (-1000000))), (.k (.int .i64 1000000))]))⟩,
    ⟨(some 11), (some (7, false)), (.q (.un .not (.t 10)))⟩,
    ⟨(some 12), none, (.q (.pick (.t 7) (.k (.bool true)) (.t 11)))⟩,
    ⟨(some 13), none, (.q (.mov (.t 12)))⟩,
    ⟨(some 14), (some (13, false)), (.q (.fld 2 2 (.t 1)))⟩,
    ⟨(some 15), (some (13, false)), (.rd (.ld false 1 (.t 14)))⟩,
    ⟨(some 16), (some (13, false)), (.ac (.callf 157 [(.t 15), (.k (.int .i64 (-1000000))), (.k (.int .i64 1000000))]))⟩,
    ⟨(some 17), (some (13, false)), (.q (.un .not (.t 16)))⟩,
    ⟨(some 18), none, (.q (.pick (.t 13) (.k (.bool true)) (.t 17)))⟩,
    ⟨(some 2), none, (.q (.mov (.t 18)))⟩] [1, 2]) (
  .ret)),
  [.tmp 2], [1]⟩
noncomputable def g156 : HFn Tryz.prog := ⟨r156, fun K => wslow Tryz.prog K r156.code, fun _ _ hK => wslow_fits hK _ (by decide +kernel)⟩
theorem c156 : chkF Tryz.prog Tryz.f156 r156 = true := by decide +kernel

/-- doubletake/rule.within -/
def r157 : RFn := ⟨3,
  .seq (
  .reg [⟨(some 6), none, (.q (.mov (.k (.bool false))))⟩] [0, 1, 2]) (
  .seq (
  .reg [⟨(some 7), none, (.q (.mov (.t 0)))⟩,
    ⟨(some 8), none, (.q (.mov (.t 1)))⟩,
    ⟨(some 9), none, (.q (.bin .geq 3 (.t 7) (.t 8)))⟩,
    ⟨(some 10), none, (.q (.mov (.t 9)))⟩,
    ⟨(some 11), (some (10, true)), (.q (.mov (.t 0)))⟩,
    ⟨(some 12), (some (10, true)), (.q (.mov (.t 2)))⟩,
    ⟨(some 13), (some (10, true)), (.q (.bin .leq 3 (.t 11) (.t 12)))⟩,
    ⟨(some 14), none, (.q (.pick (.t 10) (.t 13) (.k (.bool false))))⟩,
    ⟨(some 6), none, (.q (.mov (.t 14)))⟩] [6]) (
  .ret)),
  [.tmp 6], []⟩
noncomputable def g157 : HFn Tryz.prog := ⟨r157, fun K => wslow Tryz.prog K r157.code, fun _ _ hK => wslow_fits hK _ (by decide +kernel)⟩
theorem c157 : chkF Tryz.prog Tryz.f157 r157 = true := by decide +kernel

/-- math.IsNaN -/
def r158 : RFn := ⟨1,
  .seq (
  .reg [⟨(some 2), none, (.q (.mov (.k (.bool false))))⟩] [0]) (
  .seq (
  .reg [⟨(some 3), none, (.q (.mov (.t 0)))⟩,
    ⟨(some 4), none, (.q (.mov (.t 0)))⟩,
    ⟨(some 5), none, (.q (.bin .neq 26 (.t 3) (.t 4)))⟩,
    ⟨(some 2), none, (.q (.mov (.t 5)))⟩] [2]) (
  .ret)),
  [.tmp 2], []⟩
noncomputable def g158 : HFn Tryz.prog := ⟨r158, fun K => wslow Tryz.prog K r158.code, fun _ _ hK => wslow_fits hK _ (by decide +kernel)⟩
theorem c158 : chkF Tryz.prog Tryz.f158 r158 = true := by decide +kernel

/-! math.IsInf -/
def o159n0 : List RI := [⟨(some 4), none, (.q (.mov (.k (.bool false))))⟩]
noncomputable def b159n0 (K : KTC) (k : KS) (a0 a1 : AV) (c : KN) (p : KV) : Kr :=
  c [(0, a0), (1, a1)] k
theorem e159n0 (K : KTC) (k : KS) (a0 a1 : AV) (c : KN) (p : KV) : b159n0 K k a0 a1 c p = wReg Tryz.prog K [0, 1] o159n0 [(0, a0), (1, a1)] k c p := by unfold b159n0; kernel_rfl
noncomputable def s159n0 (K : KTC) (e : Env) (k : KS) (c : KN) (p : KV) : Kr := gt e 0 fun a0 => gt e 1 fun a1 => b159n0 K k a0 a1 c p
theorem p159n0 (K : KTC) (K' : KT) (hK : CSound K K') : FitsC Tryz.prog K' (.reg (s159n0 K)) (.reg o159n0 [0, 1]) := fun e k c p y h => by
  obtain ⟨a0, h0, h⟩ := gt_some h
  obtain ⟨a1, h1, h⟩ := gt_some h
  exact wreg_fit hK (by decide +kernel) (keep_cons h0 (keep_cons h1 (keep_nil))) (e159n0 K k a0 a1 c p) h
def o159n1 : List RI := [⟨(some 5), none, (.q (.mov (.t 1)))⟩, ⟨(some 6), none, (.q (.bin .eql 3 (.t 5) (.k (.int .i64 0))))⟩]
noncomputable def b159n1 (K : KTC) (k : KS) (a1 a0 : AV) (c : KN) (p : KV) : Kr :=
  xEql 3 a1 (.sc (.int .i64 0)) fun v0 =>
  c [(0, a0), (1, a1), (6, v0)] k
theorem e159n1 (K : KTC) (k : KS) (a1 a0 : AV) (c : KN) (p : KV) : b159n1 K k a1 a0 c p = wReg Tryz.prog K [0, 1, 6] o159n1 [(1, a1), (0, a0)] k c p := by unfold b159n1; simp only [xEql_eq]; kernel_rfl
noncomputable def s159n1 (K : KTC) (e : Env) (k : KS) (c : KN) (p : KV) : Kr := gt e 1 fun a1 => gt e 0 fun a0 => b159n1 K k a1 a0 c p
theorem p159n1 (K : KTC) (K' : KT) (hK : CSound K K') : FitsC Tryz.prog K' (.reg (s159n1 K)) (.reg o159n1 [0, 1, 6]) := fun e k c p y h => by
  obtain ⟨a1, h1, h⟩ := gt_some h
  obtain ⟨a0, h0, h⟩ := gt_some h
  exact wreg_fit hK (by decide +kernel) (keep_cons h1 (keep_cons h0 (keep_nil))) (e159n1 K k a1 a0 c p) h
def o159n2 : List RI := [⟨(some 7), none, (.q (.mov (.t 0)))⟩, ⟨(some 8), none, (.ac (.callf 143 [(.t 7)]))⟩, ⟨(some 0), none, (.q (.mov (.t 8)))⟩]
noncomputable def b159n2 (K : KTC) (k : KS) (a0 : AV) (c : KN) (p : KV) : Kr :=
  K 143 [a0] k (fun v0 k0 =>
  c [(0, v0)] k0) (p)
theorem e159n2 (K : KTC) (k : KS) (a0 : AV) (c : KN) (p : KV) : b159n2 K k a0 c p = wReg Tryz.prog K [0] o159n2 [(0, a0)] k c p := by unfold b159n2; kernel_rfl
noncomputable def s159n2 (K : KTC) (e : Env) (k : KS) (c : KN) (p : KV) : Kr := gt e 0 fun a0 => b159n2 K k a0 c p
theorem p159n2 (K : KTC) (K' : KT) (hK : CSound K K') : FitsC Tryz.prog K' (.reg (s159n2 K)) (.reg o159n2 [0]) := fun e k c p y h => by
  obtain ⟨a0, h0, h⟩ := gt_some h
  exact wreg_fit hK (by decide +kernel) (keep_cons h0 (keep_nil)) (e159n2 K k a0 c p) h
def o159n3 : List RI := [⟨(some 9), none, (.q (.mov (.t 1)))⟩, ⟨(some 10), none, (.q (.bin .lss 3 (.t 9) (.k (.int .i64 0))))⟩]
noncomputable def b159n3 (K : KTC) (k : KS) (a1 a0 : AV) (c : KN) (p : KV) : Kr :=
  xLss 3 a1 (.sc (.int .i64 0)) fun v0 =>
  c [(0, a0), (10, v0)] k
theorem e159n3 (K : KTC) (k : KS) (a1 a0 : AV) (c : KN) (p : KV) : b159n3 K k a1 a0 c p = wReg Tryz.prog K [0, 10] o159n3 [(1, a1), (0, a0)] k c p := by unfold b159n3; simp only [xLss_eq]; kernel_rfl
noncomputable def s159n3 (K : KTC) (e : Env) (k : KS) (c : KN) (p : KV) : Kr := gt e 1 fun a1 => gt e 0 fun a0 => b159n3 K k a1 a0 c p
theorem p159n3 (K : KTC) (K' : KT) (hK : CSound K K') : FitsC Tryz.prog K' (.reg (s159n3 K)) (.reg o159n3 [0, 10]) := fun e k c p y h => by
  obtain ⟨a1, h1, h⟩ := gt_some h
  obtain ⟨a0, h0, h⟩ := gt_some h
  exact wreg_fit hK (by decide +kernel) (keep_cons h1 (keep_cons h0 (keep_nil))) (e159n3 K k a1 a0 c p) h
def o159n4 : List RI := [⟨(some 11), none, (.q (.mov (.t 0)))⟩, ⟨(some 12), none, (.q (.un .neg (.t 11)))⟩, ⟨(some 0), none, (.q (.mov (.t 12)))⟩]
noncomputable def b159n4 (K : KTC) (k : KS) (a0 : AV) (c : KN) (p : KV) : Kr :=
  (kQ Tryz.prog [(11, a0)] (.un .neg (.t 11))).bind fun v0 =>
  c [(0, v0)] k
theorem e159n4 (K : KTC) (k : KS) (a0 : AV) (c : KN) (p : KV) : b159n4 K k a0 c p = wReg Tryz.prog K [0] o159n4 [(0, a0)] k c p := by unfold b159n4; kernel_rfl
noncomputable def s159n4 (K : KTC) (e : Env) (k : KS) (c : KN) (p : KV) : Kr := gt e 0 fun a0 => b159n4 K k a0 c p
theorem p159n4 (K : KTC) (K' : KT) (hK : CSound K K') : FitsC Tryz.prog K' (.reg (s159n4 K)) (.reg o159n4 [0]) := fun e k c p y h => by
  obtain ⟨a0, h0, h⟩ := gt_some h
  exact wreg_fit hK (by decide +kernel) (keep_cons h0 (keep_nil)) (e159n4 K k a0 c p) h
def o159n5 : List RI := [⟨(some 13), none, (.q (.mov (.t 0)))⟩, ⟨(some 14), none, (.q (.bin .gtr 26 (.t 13) (.k (.float .f64 9218868437227405311))))⟩, ⟨(some 4), none, (.q (.mov (.t 14)))⟩]
noncomputable def b159n5 (K : KTC) (k : KS) (a0 : AV) (c : KN) (p : KV) : Kr :=
  xGtr 26 a0 (.sc (.float .f64 9218868437227405311)) fun v0 =>
  c [(4, v0)] k
theorem e159n5 (K : KTC) (k : KS) (a0 : AV) (c : KN) (p : KV) : b159n5 K k a0 c p = wReg Tryz.prog K [4] o159n5 [(0, a0)] k c p := by unfold b159n5; simp only [xGtr_eq]; kernel_rfl
noncomputable def s159n5 (K : KTC) (e : Env) (k : KS) (c : KN) (p : KV) : Kr := gt e 0 fun a0 => b159n5 K k a0 c p
theorem p159n5 (K : KTC) (K' : KT) (hK : CSound K K') : FitsC Tryz.prog K' (.reg (s159n5 K)) (.reg o159n5 [4]) := fun e k c p y h => by
  obtain ⟨a0, h0, h⟩ := gt_some h
  exact wreg_fit hK (by decide +kernel) (keep_cons h0 (keep_nil)) (e159n5 K k a0 c p) h
def r159 : RFn := ⟨2, .seq (.reg o159n0 [0, 1]) (.seq (.seq (.reg o159n1 [0, 1, 6]) (.cond (.t 6) (.reg o159n2 [0]) (.seq (.reg o159n3 [0, 10]) (.cond (.t 10) (.reg o159n4 [0]) (.skip))))) (.seq (.reg o159n5 [4]) (.ret))), [.tmp 4], []⟩
noncomputable def q159 (K : KTC) : FK := .seq (.reg (s159n0 K)) (.seq (.seq (.reg (s159n1 K)) (.cond (.t 6) (.reg (s159n2 K)) (.seq (.reg (s159n3 K)) (.cond (.t 10) (.reg (s159n4 K)) (.skip))))) (.seq (.reg (s159n5 K)) (.ret)))
theorem ok159 (K : KTC) (K' : KT) (hK : CSound K K') : FitsC Tryz.prog K' (q159 K) r159.code := hs (p159n0 K _ hK) (hs (hs (p159n1 K _ hK) (hc (p159n2 K _ hK) (hs (p159n3 K _ hK) (hc (p159n4 K _ hK) (hk))))) (hs (p159n5 K _ hK) (hr)))
noncomputable def g159 : HFn Tryz.prog := ⟨r159, q159, ok159⟩
theorem c159 : chkF Tryz.prog Tryz.f159 r159 = true := by decide +kernel

/-! doubletake/step.rightBody -/
def o160n0 : List RI := [⟨(some 3), none, (.al (.box (.t 0)))⟩, ⟨(some 5), none, (.al (.box (.t 2)))⟩, ⟨(some 6), none, (.q (.mov (.k (.bool false))))⟩]
noncomputable def b160n0 (K : KTC) (k : KS) (a0 a2 a1 : AV) (c : KN) (p : KV) : Kr :=
  pAl (evAl [(0, a0)] k.nx (.box (.t 0))) k fun v0 k0 =>
  pAl (evAl [(2, a2)] k0.nx (.box (.t 2))) k0 fun v1 k1 =>
  c [(1, a1), (3, v0), (5, v1)] k1
theorem e160n0 (K : KTC) (k : KS) (a0 a2 a1 : AV) (c : KN) (p : KV) : b160n0 K k a0 a2 a1 c p = wReg Tryz.prog K [1, 3, 5] o160n0 [(0, a0), (2, a2), (1, a1)] k c p := by unfold b160n0; kernel_rfl
noncomputable def s160n0 (K : KTC) (e : Env) (k : KS) (c : KN) (p : KV) : Kr := gt e 0 fun a0 => gt e 2 fun a2 => gt e 1 fun a1 => b160n0 K k a0 a2 a1 c p
theorem p160n0 (K : KTC) (K' : KT) (hK : CSound K K') : FitsC Tryz.prog K' (.reg (s160n0 K)) (.reg o160n0 [1, 3, 5]) := fun e k c p y h => by
  obtain ⟨a0, h0, h⟩ := gt_some h
  obtain ⟨a2, h2, h⟩ := gt_some h
  obtain ⟨a1, h1, h⟩ := gt_some h
  exact wreg_fit hK (by decide +kernel) (keep_cons h0 (keep_cons h2 (keep_cons h1 (keep_nil)))) (e160n0 K k a0 a2 a1 c p) h
def o160n1 : List RI := [⟨(some 8), none, (.rd (.ld true 12 (.t 5)))⟩, ⟨(some 9), none, (.ac (.callf 195 [(.t 8)]))⟩, ⟨(some 10), none, (.q (.un .not (.t 9)))⟩, ⟨(some 7), none, (.q (.mov (.t 10)))⟩]
noncomputable def b160n1 (K : KTC) (k : KS) (a5 a1 a3 : AV) (c : KN) (p : KV) : Kr :=
  xLd k.t true 12 a5 fun v0 =>
  K 195 [v0] k (fun v1 k1 =>
  (kQ Tryz.prog [(9, v1)] (.un .not (.t 9))).bind fun v2 =>
  c [(1, a1), (3, a3), (5, a5), (7, v2)] k1) (p)
theorem e160n1 (K : KTC) (k : KS) (a5 a1 a3 : AV) (c : KN) (p : KV) : b160n1 K k a5 a1 a3 c p = wReg Tryz.prog K [1, 3, 5, 7] o160n1 [(5, a5), (1, a1), (3, a3)] k c p := by unfold b160n1; simp only [xLd_eq]; kernel_rfl
noncomputable def s160n1 (K : KTC) (e : Env) (k : KS) (c : KN) (p : KV) : Kr := gt e 5 fun a5 => gt e 1 fun a1 => gt e 3 fun a3 => b160n1 K k a5 a1 a3 c p
theorem p160n1 (K : KTC) (K' : KT) (hK : CSound K K') : FitsC Tryz.prog K' (.reg (s160n1 K)) (.reg o160n1 [1, 3, 5, 7]) := fun e k c p y h => by
  obtain ⟨a5, h5, h⟩ := gt_some h
  obtain ⟨a1, h1, h⟩ := gt_some h
  obtain ⟨a3, h3, h⟩ := gt_some h
  exact wreg_fit hK (by decide +kernel) (keep_cons h5 (keep_cons h1 (keep_cons h3 (keep_nil)))) (e160n1 K k a5 a1 a3 c p) h
def o160n2 : List RI := [⟨(some 6), none, (.q (.mov (.k (.bool false))))⟩]
noncomputable def b160n2 (K : KTC) (k : KS) (a3 a5 : AV) (c : KN) (p : KV) : Kr :=
  c [(3, a3), (5, a5), (6, (.sc (.bool false)))] k
theorem e160n2 (K : KTC) (k : KS) (a3 a5 : AV) (c : KN) (p : KV) : b160n2 K k a3 a5 c p = wReg Tryz.prog K [3, 5, 6] o160n2 [(3, a3), (5, a5)] k c p := by unfold b160n2; kernel_rfl
noncomputable def s160n2 (K : KTC) (e : Env) (k : KS) (c : KN) (p : KV) : Kr := gt e 3 fun a3 => gt e 5 fun a5 => b160n2 K k a3 a5 c p
theorem p160n2 (K : KTC) (K' : KT) (hK : CSound K K') : FitsC Tryz.prog K' (.reg (s160n2 K)) (.reg o160n2 [3, 5, 6]) := fun e k c p y h => by
  obtain ⟨a3, h3, h⟩ := gt_some h
  obtain ⟨a5, h5, h⟩ := gt_some h
  exact wreg_fit hK (by decide +kernel) (keep_cons h3 (keep_cons h5 (keep_nil))) (e160n2 K k a3 a5 c p) h
def o160n3 : List RI := [⟨(some 12), none, (.q (.mov (.t 1)))⟩, ⟨(some 13), none, (.q (.fld 0 0 (.t 3)))⟩, ⟨(some 14), none, (.rd (.ld false 1 (.t 13)))⟩, ⟨(some 15), none, (.q (.bin .lss 3 (.t 12) (.t 14)))⟩, ⟨(some 11), none, (.q (.mov (.t 15)))⟩]
noncomputable def b160n3 (K : KTC) (k : KS) (a1 a3 a5 : AV) (c : KN) (p : KV) : Kr :=
  xFld 0 0 a3 fun v0 =>
  xLd k.t false 1 v0 fun v1 =>
  xLss 3 a1 v1 fun v2 =>
  c [(1, a1), (3, a3), (5, a5), (11, v2)] k
theorem e160n3 (K : KTC) (k : KS) (a1 a3 a5 : AV) (c : KN) (p : KV) : b160n3 K k a1 a3 a5 c p = wReg Tryz.prog K [1, 3, 5, 11] o160n3 [(1, a1), (3, a3), (5, a5)] k c p := by unfold b160n3; simp only [xLss_eq, xLd_eq, xFld_eq]; kernel_rfl
noncomputable def s160n3 (K : KTC) (e : Env) (k : KS) (c : KN) (p : KV) : Kr := gt e 1 fun a1 => gt e 3 fun a3 => gt e 5 fun a5 => b160n3 K k a1 a3 a5 c p
theorem p160n3 (K : KTC) (K' : KT) (hK : CSound K K') : FitsC Tryz.prog K' (.reg (s160n3 K)) (.reg o160n3 [1, 3, 5, 11]) := fun e k c p y h => by
  obtain ⟨a1, h1, h⟩ := gt_some h
  obtain ⟨a3, h3, h⟩ := gt_some h
  obtain ⟨a5, h5, h⟩ := gt_some h
  exact wreg_fit hK (by decide +kernel) (keep_cons h1 (keep_cons h3 (keep_cons h5 (keep_nil)))) (e160n3 K k a1 a3 a5 c p) h
def o160n4 : List RI := [⟨(some 16), none, (.q (.fld 0 0 (.t 5)))⟩, ⟨(some 17), none, (.rd (.ld false 1 (.t 16)))⟩, ⟨(some 18), none, (.q (.bin .eql 3 (.t 17) (.k (.int .i64 1))))⟩, ⟨(some 19), none, (.q (.mov (.t 18)))⟩, ⟨(some 20), (some (19, true)), (.q (.fld 1 1 (.t 5)))⟩, ⟨(some 21), (some (19, true)), (.rd (.ld false 1 (.t 20)))⟩, ⟨(some 22), (some (19, true)), (.q (.mov (.t 1)))⟩, ⟨(some 23), (some (19, true)), (.q (.bin .eql 3 (.t 21) (.t 22)))⟩, ⟨(some 24), none, (.q (.pick (.t 19) (.t 23) (.k (.bool false))))⟩, ⟨(some 6), none, (.q (.mov (.t 24)))⟩]
def o160n5 : List RI := [⟨(some 25), none, (.q (.fld 0 0 (.t 5)))⟩, ⟨(some 26), none, (.rd (.ld false 1 (.t 25)))⟩, ⟨(some 27), none, (.q (.bin .eql 3 (.t 26) (.k (.int .i64 0))))⟩, ⟨(some 28), none, (.q (.mov (.t 27)))⟩, ⟨(some 29), (some (28, false)), (.q (.fld 0 0 (.t 5)))⟩, ⟨(some 30), (some (28, false)), (.rd (.ld false 1 (.t 29)))⟩, ⟨(some 31), (some (28, false)), (.q (.bin .eql 3 (.t 30) (.k (.int .i64 2))))⟩, ⟨(some 32), (some (28, false)), (.q (.mov (.t 31)))⟩, ⟨(some 33), (some (32, true)), (.q (.fld 1 1 (.t 5)))⟩, ⟨(some 34), (some (32, true)), (.rd (.ld false 1 (.t 33)))⟩, ⟨(some 35), (some (32, true)), (.q (.fld 0 0 (.t 3)))⟩, ⟨(some 36), (some (32, true)), (.rd (.ld false 1 (.t 35)))⟩, ⟨(some 37), (some (32, true)), (.q (.bin .lss 3 (.t 34) (.t 36)))⟩, ⟨(some 38), (some (28, false)), (.q (.pick (.t 32) (.t 37) (.k (.bool false))))⟩, ⟨(some 39), none, (.q (.pick (.t 28) (.k (.bool true)) (.t 38)))⟩, ⟨(some 6), none, (.q (.mov (.t 39)))⟩]
def r160 : RFn := ⟨3, .seq (.reg o160n0 [1, 3, 5]) (.seq (.block 0 (.seq (.reg o160n1 [1, 3, 5, 7]) (.cond (.t 7) (.seq (.reg o160n2 [3, 5, 6]) (.ret)) (.seq (.reg o160n3 [1, 3, 5, 11]) (.cond (.t 11) (.seq (.reg o160n4 [3, 5, 6]) (.ret)) (.skip)))))) (.seq (.reg o160n5 [3, 5, 6]) (.ret))), [.tmp 6], [3, 5]⟩
noncomputable def q160 (K : KTC) : FK := .seq (.reg (s160n0 K)) (.seq (.block 0 (.seq (.reg (s160n1 K)) (.cond (.t 7) (.seq (.reg (s160n2 K)) (.ret)) (.seq (.reg (s160n3 K)) (.cond (.t 11) (.seq (.reg fun e k c p => wReg Tryz.prog K [3, 5, 6] o160n4 e k c p) (.ret)) (.skip)))))) (.seq (.reg fun e k c p => wReg Tryz.prog K [3, 5, 6] o160n5 e k c p) (.ret)))
theorem ok160 (K : KTC) (K' : KT) (hK : CSound K K') : FitsC Tryz.prog K' (q160 K) r160.code := hs (p160n0 K _ hK) (hs (hb (hs (p160n1 K _ hK) (hc (hs (p160n2 K _ hK) (hr)) (hs (p160n3 K _ hK) (hc (hs (wslow_reg hK) (hr)) (hk)))))) (hs (wslow_reg hK) (hr)))
noncomputable def g160 : HFn Tryz.prog := ⟨r160, q160, ok160⟩
theorem c160 : chkF Tryz.prog Tryz.f160 r160 = true := by decide +kernel

/-! doubletake/bits.within -/
def o161n0 : List RI := [⟨(some 2), none, (.q (.mov (.k (.int .i64 0))))⟩]
noncomputable def b161n0 (K : KTC) (k : KS) (a0 : AV) (c : KN) (p : KV) : Kr :=
  c [(0, a0)] k
theorem e161n0 (K : KTC) (k : KS) (a0 : AV) (c : KN) (p : KV) : b161n0 K k a0 c p = wReg Tryz.prog K [0] o161n0 [(0, a0)] k c p := by unfold b161n0; kernel_rfl
noncomputable def s161n0 (K : KTC) (e : Env) (k : KS) (c : KN) (p : KV) : Kr := gt e 0 fun a0 => b161n0 K k a0 c p
theorem p161n0 (K : KTC) (K' : KT) (hK : CSound K K') : FitsC Tryz.prog K' (.reg (s161n0 K)) (.reg o161n0 [0]) := fun e k c p y h => by
  obtain ⟨a0, h0, h⟩ := gt_some h
  exact wreg_fit hK (by decide +kernel) (keep_cons h0 (keep_nil)) (e161n0 K k a0 c p) h
def o161n1 : List RI := [⟨(some 3), none, (.q (.mov (.t 0)))⟩, ⟨(some 4), none, (.q (.mm false [(.t 3), (.k (.int .i64 64))]))⟩, ⟨(some 5), none, (.q (.mm true [(.k (.int .i64 0)), (.t 4)]))⟩, ⟨(some 2), none, (.q (.mov (.t 5)))⟩]
noncomputable def b161n1 (K : KTC) (k : KS) (a0 : AV) (c : KN) (p : KV) : Kr :=
  xMM false a0 (.sc (.int .i64 64)) fun v0 =>
  xMM true (.sc (.int .i64 0)) v0 fun v1 =>
  c [(2, v1)] k
theorem e161n1 (K : KTC) (k : KS) (a0 : AV) (c : KN) (p : KV) : b161n1 K k a0 c p = wReg Tryz.prog K [2] o161n1 [(0, a0)] k c p := by unfold b161n1; simp only [xMM_eq]; kernel_rfl
noncomputable def s161n1 (K : KTC) (e : Env) (k : KS) (c : KN) (p : KV) : Kr := gt e 0 fun a0 => b161n1 K k a0 c p
theorem p161n1 (K : KTC) (K' : KT) (hK : CSound K K') : FitsC Tryz.prog K' (.reg (s161n1 K)) (.reg o161n1 [2]) := fun e k c p y h => by
  obtain ⟨a0, h0, h⟩ := gt_some h
  exact wreg_fit hK (by decide +kernel) (keep_cons h0 (keep_nil)) (e161n1 K k a0 c p) h
def r161 : RFn := ⟨1, .seq (.reg o161n0 [0]) (.seq (.reg o161n1 [2]) (.ret)), [.tmp 2], []⟩
noncomputable def q161 (K : KTC) : FK := .seq (.reg (s161n0 K)) (.seq (.reg (s161n1 K)) (.ret))
theorem ok161 (K : KTC) (K' : KT) (hK : CSound K K') : FitsC Tryz.prog K' (q161 K) r161.code := hs (p161n0 K _ hK) (hs (p161n1 K _ hK) (hr))
noncomputable def g161 : HFn Tryz.prog := ⟨r161, q161, ok161⟩
theorem c161 : chkF Tryz.prog Tryz.f161 r161 = true := by decide +kernel

/-! (*doubletake/bits.Writer).put -/
def o162n0 : List RI := [⟨(some 4), none, (.q (.mov (.t 0)))⟩, ⟨(some 5), none, (.q (.nchk (.t 4)))⟩, ⟨(some 6), none, (.q (.fld 1 1 (.t 5)))⟩, ⟨(some 7), none, (.rd (.ld false 1 (.t 6)))⟩, ⟨(some 8), none, (.q (.bin .rem 3 (.t 7) (.k (.int .i64 8))))⟩, ⟨(some 9), none, (.q (.bin .eql 3 (.t 8) (.k (.int .i64 0))))⟩]
noncomputable def b162n0 (K : KTC) (k : KS) (a0 a1 : AV) (c : KN) (p : KV) : Kr :=
  xLdf k.t 1 1 false 1 a0 fun v0 =>
  xRem 3 v0 (.sc (.int .i64 8)) fun v1 =>
  xEql 3 v1 (.sc (.int .i64 0)) fun v2 =>
  c [(0, a0), (1, a1), (9, v2)] k
theorem e162n0 (K : KTC) (k : KS) (a0 a1 : AV) (c : KN) (p : KV) : b162n0 K k a0 a1 c p = wReg Tryz.prog K [0, 1, 9] o162n0 [(0, a0), (1, a1)] k c p := by unfold b162n0; simp only [xEql_eq, xRem_eq, xLdf_eq]; kernel_rfl
noncomputable def s162n0 (K : KTC) (e : Env) (k : KS) (c : KN) (p : KV) : Kr := gt e 0 fun a0 => gt e 1 fun a1 => b162n0 K k a0 a1 c p
theorem p162n0 (K : KTC) (K' : KT) (hK : CSound K K') : FitsC Tryz.prog K' (.reg (s162n0 K)) (.reg o162n0 [0, 1, 9]) := fun e k c p y h => by
  obtain ⟨a0, h0, h⟩ := gt_some h
  obtain ⟨a1, h1, h⟩ := gt_some h
  exact wreg_fit hK (by decide +kernel) (keep_cons h0 (keep_cons h1 (keep_nil))) (e162n0 K k a0 a1 c p) h
def o162n1 : List RI := [⟨(some 10), none, (.q (.mov (.t 0)))⟩, ⟨(some 11), none, (.q (.mov (.t 0)))⟩, ⟨(some 12), none, (.q (.nchk (.t 11)))⟩, ⟨(some 13), none, (.q (.fld 0 0 (.t 12)))⟩, ⟨(some 14), none, (.rd (.ld false 1 (.t 13)))⟩, ⟨(some 15), none, (.al (.bldS 1 1 (.sc (.int .u8 0)) [(0, (.k (.int .u8 0)))]))⟩, ⟨(some 16), none, (.ac (.app true 1 1 (.t 14) (.t 15)))⟩, ⟨(some 17), none, (.q (.nchk (.t 10)))⟩, ⟨(some 18), none, (.q (.fld 0 0 (.t 17)))⟩, ⟨none, none, (.ac (.st 1 (.t 18) (.t 16)))⟩]
noncomputable def b162n1 (K : KTC) (k : KS) (a0 a1 : AV) (c : KN) (p : KV) : Kr :=
  xLdf k.t 0 0 false 1 a0 fun v0 =>
  xBld1 (.sc (.int .u8 0)) (.sc (.int .u8 0)) k fun v1 k1 =>
  xApp k1 1 1 v0 v1 (fun v2 k2 =>
  xStf k2 0 0 1 a0 v2 (fun v3 k3 =>
  c [(0, a0), (1, a1)] k3) (p)) (p)
theorem e162n1 (K : KTC) (k : KS) (a0 a1 : AV) (c : KN) (p : KV) : b162n1 K k a0 a1 c p = wReg Tryz.prog K [0, 1] o162n1 [(0, a0), (1, a1)] k c p := by unfold b162n1; simp only [xStf_eq, xApp_eq, xBld1_eq, xLdf_eq]; kernel_rfl
noncomputable def s162n1 (K : KTC) (e : Env) (k : KS) (c : KN) (p : KV) : Kr := gt e 0 fun a0 => gt e 1 fun a1 => b162n1 K k a0 a1 c p
theorem p162n1 (K : KTC) (K' : KT) (hK : CSound K K') : FitsC Tryz.prog K' (.reg (s162n1 K)) (.reg o162n1 [0, 1]) := fun e k c p y h => by
  obtain ⟨a0, h0, h⟩ := gt_some h
  obtain ⟨a1, h1, h⟩ := gt_some h
  exact wreg_fit hK (by decide +kernel) (keep_cons h0 (keep_cons h1 (keep_nil))) (e162n1 K k a0 a1 c p) h
def o162n2 : Plan := [(0, ⟨(some 19), none, (.q (.mov (.t 0)))⟩, 0), (1, ⟨(some 20), none, (.q (.nchk (.t 19)))⟩, 0), (2, ⟨(some 21), none, (.q (.fld 0 0 (.t 20)))⟩, 0), (3, ⟨(some 22), none, (.rd (.ld false 1 (.t 21)))⟩, 0), (4, ⟨(some 23), none, (.q (.mov (.t 0)))⟩, 0), (5, ⟨(some 24), none, (.q (.nchk (.t 23)))⟩, 0), (6, ⟨(some 25), none, (.q (.fld 1 1 (.t 24)))⟩, 0), (7, ⟨(some 26), none, (.rd (.ld false 1 (.t 25)))⟩, 0), (8, ⟨(some 27), none, (.q (.bin .quo 3 (.t 26) (.k (.int .i64 8))))⟩, 0), (9, ⟨(some 28), none, (.q (.ixs 1 (.t 22) (.t 27)))⟩, 0), (10, ⟨(some 29), none, (.rd (.ld false 1 (.t 28)))⟩, 0), (11, ⟨(some 30), none, (.q (.mov (.t 1)))⟩, 0), (12, ⟨(some 31), none, (.q (.mov (.t 0)))⟩, 0), (13, ⟨(some 32), none, (.q (.nchk (.t 31)))⟩, 0), (14, ⟨(some 33), none, (.q (.fld 1 1 (.t 32)))⟩, 0), (15, ⟨(some 34), none, (.rd (.ld false 1 (.t 33)))⟩, 0), (16, ⟨(some 35), none, (.q (.bin .rem 3 (.t 34) (.k (.int .i64 8))))⟩, 0), (17, ⟨(some 36), none, (.q (.bin .sub 3 (.k (.int .i64 7)) (.t 35)))⟩, 0), (18, ⟨(some 37), none, (.q (.bin .shl 39 (.t 30) (.t 36)))⟩, 0), (19, ⟨(some 38), none, (.q (.conv 39 5 (.t 37)))⟩, 0), (20, ⟨(some 39), none, (.q (.bin .or 5 (.t 29) (.t 38)))⟩, 0), (21, ⟨(some 40), none, (.q (.ixs 1 (.t 22) (.t 27)))⟩, 0), (22, ⟨none, none, (.ac (.st 1 (.t 40) (.t 39)))⟩, 0)]
noncomputable def b162n2 (K : KTC) (k : KS) (a0 a1 : AV) (c : KN) (p : KV) : Kr :=
  xLdf k.t 0 0 false 1 a0 fun v0 =>
  xLdf k.t 1 1 false 1 a0 fun v1 =>
  xQuo 3 v1 (.sc (.int .i64 8)) fun v2 =>
  xIxl k.t 1 false 1 v0 v2 fun v3 =>
  xLdf k.t 1 1 false 1 a0 fun v4 =>
  xRem 3 v4 (.sc (.int .i64 8)) fun v5 =>
  xSub 3 (.sc (.int .i64 7)) v5 fun v6 =>
  xShl 39 a1 v6 fun v7 =>
  xConv 39 5 v7 fun v8 =>
  xOr 5 v3 v8 fun v9 =>
  xIxst k 1 1 v0 v2 v9 (fun v10 k10 =>
  c [(0, a0)] k10) (fun v10 k10 => (kDead [] k.t Tryz.prog 1 (o162n2.drop 23) (Env.del [(39, v9), (38, v8), (37, v7), (36, v6), (35, v5), (34, v4), (31, a0), (30, a1), (29, v3), (27, v2), (26, v1), (23, a0), (22, v0), (19, a0), (0, a0), (1, a1)] none) k10).bind fun s => p v10 ⟨k10.t, s.nx⟩)
theorem e162n2 (K : KTC) (k : KS) (a0 a1 : AV) (c : KN) (p : KV) : b162n2 K k a0 a1 c p = wLive Tryz.prog K [0] o162n2 [(0, a0), (1, a1)] k k.t [] c p := by unfold b162n2; simp only [xIxst_eq, xOr_eq, xConv_eq, xShl_eq, xSub_eq, xRem_eq, xIxl_eq, xQuo_eq, xLdf_eq]; kernel_rfl
noncomputable def s162n2 (K : KTC) (e : Env) (k : KS) (c : KN) (p : KV) : Kr := gt e 0 fun a0 => gt e 1 fun a1 => b162n2 K k a0 a1 c p
theorem p162n2 (K : KTC) (K' : KT) (hK : CSound K K') : FitsC Tryz.prog K' (.reg (s162n2 K)) (.draw o162n2 [0]) := fun e k c p y h => by
  obtain ⟨a0, h0, h⟩ := gt_some h
  obtain ⟨a1, h1, h⟩ := gt_some h
  exact wdraw_fit hK (by decide +kernel) (keep_cons h0 (keep_cons h1 (keep_nil))) (e162n2 K k a0 a1 c p) h
def o162n3 : List RI := [⟨(some 41), none, (.q (.mov (.t 0)))⟩, ⟨(some 42), none, (.q (.nchk (.t 41)))⟩, ⟨(some 43), none, (.q (.fld 1 1 (.t 42)))⟩, ⟨(some 44), none, (.rd (.ld false 1 (.t 43)))⟩, ⟨(some 45), none, (.q (.bin .add 3 (.t 44) (.k (.int .i64 1))))⟩, ⟨(some 46), none, (.q (.nchk (.t 41)))⟩, ⟨(some 47), none, (.q (.fld 1 1 (.t 46)))⟩, ⟨none, none, (.ac (.st 1 (.t 47) (.t 45)))⟩]
noncomputable def b162n3 (K : KTC) (k : KS) (a0 : AV) (c : KN) (p : KV) : Kr :=
  xLdf k.t 1 1 false 1 a0 fun v0 =>
  xAdd 3 v0 (.sc (.int .i64 1)) fun v1 =>
  xStf k 1 1 1 a0 v1 (fun v2 k2 =>
  c [] k2) (p)
theorem e162n3 (K : KTC) (k : KS) (a0 : AV) (c : KN) (p : KV) : b162n3 K k a0 c p = wReg Tryz.prog K [] o162n3 [(0, a0)] k c p := by unfold b162n3; simp only [xStf_eq, xAdd_eq, xLdf_eq]; kernel_rfl
noncomputable def s162n3 (K : KTC) (e : Env) (k : KS) (c : KN) (p : KV) : Kr := gt e 0 fun a0 => b162n3 K k a0 c p
theorem p162n3 (K : KTC) (K' : KT) (hK : CSound K K') : FitsC Tryz.prog K' (.reg (s162n3 K)) (.reg o162n3 []) := fun e k c p y h => by
  obtain ⟨a0, h0, h⟩ := gt_some h
  exact wreg_fit hK (by decide +kernel) (keep_cons h0 (keep_nil)) (e162n3 K k a0 c p) h
def r162 : RFn := ⟨2, .seq (.seq (.reg o162n0 [0, 1, 9]) (.cond (.t 9) (.reg o162n1 [0, 1]) (.skip))) (.seq (.draw o162n2 [0]) (.reg o162n3 [])), [], []⟩
noncomputable def q162 (K : KTC) : FK := .seq (.seq (.reg (s162n0 K)) (.cond (.t 9) (.reg (s162n1 K)) (.skip))) (.seq (.reg (s162n2 K)) (.reg (s162n3 K)))
theorem ok162 (K : KTC) (K' : KT) (hK : CSound K K') : FitsC Tryz.prog K' (q162 K) r162.code := hs (hs (p162n0 K _ hK) (hc (p162n1 K _ hK) (hk))) (hs (p162n2 K _ hK) (p162n3 K _ hK))
noncomputable def g162 : HFn Tryz.prog := ⟨r162, q162, ok162⟩
theorem c162 : chkF Tryz.prog Tryz.f162 r162 = true := by decide +kernel

/-! (*doubletake/bits.Writer).Signed -/
def o163n0 : List RI := [⟨(some 6), none, (.q (.mov (.t 0)))⟩, ⟨(some 7), none, (.q (.mov (.t 1)))⟩, ⟨(some 8), none, (.q (.conv 3 39 (.t 7)))⟩, ⟨(some 9), none, (.q (.mov (.t 2)))⟩, ⟨(some 10), none, (.ac (.callf 109 [(.t 6), (.t 8), (.t 9)]))⟩]
noncomputable def b163n0 (K : KTC) (k : KS) (a0 a1 a2 : AV) (c : KN) (p : KV) : Kr :=
  xConv 3 39 a1 fun v0 =>
  K 109 [a0, v0, a2] k (fun v1 k1 =>
  c [] k1) (p)
theorem e163n0 (K : KTC) (k : KS) (a0 a1 a2 : AV) (c : KN) (p : KV) : b163n0 K k a0 a1 a2 c p = wReg Tryz.prog K [] o163n0 [(0, a0), (1, a1), (2, a2)] k c p := by unfold b163n0; simp only [xConv_eq]; kernel_rfl
noncomputable def s163n0 (K : KTC) (e : Env) (k : KS) (c : KN) (p : KV) : Kr := gt e 0 fun a0 => gt e 1 fun a1 => gt e 2 fun a2 => b163n0 K k a0 a1 a2 c p
theorem p163n0 (K : KTC) (K' : KT) (hK : CSound K K') : FitsC Tryz.prog K' (.reg (s163n0 K)) (.reg o163n0 []) := fun e k c p y h => by
  obtain ⟨a0, h0, h⟩ := gt_some h
  obtain ⟨a1, h1, h⟩ := gt_some h
  obtain ⟨a2, h2, h⟩ := gt_some h
  exact wreg_fit hK (by decide +kernel) (keep_cons h0 (keep_cons h1 (keep_cons h2 (keep_nil)))) (e163n0 K k a0 a1 a2 c p) h
def r163 : RFn := ⟨3, .reg o163n0 [], [], []⟩
noncomputable def q163 (K : KTC) : FK := .reg (s163n0 K)
theorem ok163 (K : KTC) (K' : KT) (hK : CSound K K') : FitsC Tryz.prog K' (q163 K) r163.code := p163n0 K _ hK
noncomputable def g163 : HFn Tryz.prog := ⟨r163, q163, ok163⟩
theorem c163 : chkF Tryz.prog Tryz.f163 r163 = true := by decide +kernel

/-- doubletake/packet.Slot -/
def r164 : RFn := ⟨1,
  .seq (
  .reg [⟨(some 2), none, (.q (.mov (.k (.int .i64 0))))⟩,
    ⟨(some 3), none, (.q (.mov (.k (.bool false))))⟩] [0]) (
  .seq (
  .seq (
  .reg [⟨(some 4), none, (.q (.mov (.t 0)))⟩,
    ⟨(some 5), none, (.q (.len false (.t 4)))⟩,
    ⟨(some 6), none, (.q (.bin .eql 3 (.t 5) (.k (.int .i64 0))))⟩] [0, 6]) (
  .cond (.t 6) (
   .seq (
   .reg [⟨(some 2), none, (.q (.mov (.k (.int .i64 0))))⟩,
     ⟨(some 3), none, (.q (.mov (.k (.bool false))))⟩] [2, 3]) (
   .ret)) (
   .skip))) (
  .seq (
  .reg [⟨(some 7), none, (.q (.mov (.t 0)))⟩,
    ⟨(some 8), none, (.q (.ixs 1 (.t 7) (.k (.int .i64 0))))⟩,
    ⟨(some 9), none, (.rd (.ld false 1 (.t 8)))⟩,
    ⟨(some 10), none, (.q (.bin .shr 5 (.t 9) (.k (.int .u64 2))))⟩,
    ⟨(some 11), none, (.q (.conv 5 3 (.t 10)))⟩,
    ⟨(some 12), none, (.q (.bin .and 3 (.t 11) (.k (.int .i64 7))))⟩,
    ⟨(some 2), none, (.q (.mov (.t 12)))⟩,
    ⟨(some 3), none, (.q (.mov (.k (.bool true))))⟩] [2, 3]) (
  .ret))),
  [.tmp 2, .tmp 3], []⟩
noncomputable def g164 : HFn Tryz.prog := ⟨r164, fun K => wslow Tryz.prog K r164.code, fun _ _ hK => wslow_fits hK _ (by decide +kernel)⟩
theorem c164 : chkF Tryz.prog Tryz.f164 r164 = true := by decide +kernel

/-- doubletake/packet.Open -/
def r165 : RFn := ⟨2,
  .seq (
  .reg [⟨(some 4), none, (.al (.alloc (.agg [1, 1, 1, 1, 1, 1, 1, 1, 1, 1, 1, 1, 1] [(.sc (.int .i64 0)), (.sc (.int .i64 0)), (.sc (.int .i64 0)), (.sc (.int .i64 0)), (.sc (.bool false)), (.sc (.int .u64 0)), (.sc (.int .i64 0)), (.sc (.int .i64 0)), (.slice none 0), (.sc (.int .i64 0)), (.slice none 0), (.sc (.int .i64 0)), (.sc (.int .i64 0))])))⟩,
    ⟨(some 5), none, (.q (.mov (.k (.int .i64 0))))⟩] [0, 1, 4, 9]) (
  .seq (
  .seq (
  .reg [⟨(some 11), none, (.q (.mov (.t 1)))⟩,
    ⟨(some 12), none, (.q (.len false (.t 11)))⟩,
    ⟨(some 13), none, (.q (.bin .gtr 3 (.t 12) (.k (.int .i64 400))))⟩] [0, 1, 4, 9, 13]) (
  .cond (.t 13) (
   .seq (
   .reg [⟨(some 14), none, (.q (.bld (.agg [1, 1, 1, 1, 1, 1, 1, 1, 1, 1, 1, 1, 1] [(.sc (.int .i64 0)), (.sc (.int .i64 0)), (.sc (.int .i64 0)), (.sc (.int .i64 0)), (.sc (.bool false)), (.sc (.int .u64 0)), (.sc (.int .i64 0)), (.sc (.int .i64 0)), (.slice none 0), (.sc (.int .i64 0)), (.slice none 0), (.sc (.int .i64 0)), (.sc (.int .i64 0))]) []))⟩,
     ⟨none, none, (.ac (.st 13 (.t 4) (.t 14)))⟩,
     ⟨(some 5), none, (.q (.mov (.k (.int .i64 7))))⟩] [4, 5, 9]) (
   .ret)) (
   .skip))) (
  .seq (
  .reg [⟨(some 16), none, (.q (.mov (.t 0)))⟩,
    ⟨(some 17), none, (.q (.mov (.t 1)))⟩,
    ⟨(some 18), none, (.ac (.callf 196 [(.t 16), (.t 17)]))⟩,
    ⟨(some 15), none, (.q (.mov (.t 18)))⟩,
    ⟨(some 19), none, (.q (.ext 0 (.t 15)))⟩,
    ⟨(some 20), none, (.q (.ext 1 (.t 15)))⟩,
    ⟨(some 6), none, (.al (.alloc (.slice none 0)))⟩,
    ⟨none, none, (.ac (.st 1 (.t 6) (.t 19)))⟩,
    ⟨(some 7), none, (.q (.mov (.t 20)))⟩] [4, 6, 7, 9]) (
  .seq (
  .seq (
  .reg [⟨(some 21), none, (.q (.mov (.t 7)))⟩,
    ⟨(some 22), none, (.q (.un .not (.t 21)))⟩] [4, 6, 9, 22]) (
  .cond (.t 22) (
   .seq (
   .reg [⟨(some 23), none, (.q (.bld (.agg [1, 1, 1, 1, 1, 1, 1, 1, 1, 1, 1, 1, 1] [(.sc (.int .i64 0)), (.sc (.int .i64 0)), (.sc (.int .i64 0)), (.sc (.int .i64 0)), (.sc (.bool false)), (.sc (.int .u64 0)), (.sc (.int .i64 0)), (.sc (.int .i64 0)), (.slice none 0), (.sc (.int .i64 0)), (.slice none 0), (.sc (.int .i64 0)), (.sc (.int .i64 0))]) []))⟩,
     ⟨none, none, (.ac (.st 13 (.t 4) (.t 23)))⟩,
     ⟨(some 5), none, (.q (.mov (.k (.int .i64 3))))⟩] [4, 5, 9]) (
   .ret)) (
   .skip))) (
  .seq (
  .reg [⟨(some 8), none, (.al (.alloc (.agg [1, 1, 1, 1, 1, 1, 1, 1, 1, 1, 1, 1, 1] [(.sc (.int .i64 0)), (.sc (.int .i64 0)), (.sc (.int .i64 0)), (.sc (.int .i64 0)), (.sc (.bool false)), (.sc (.int .u64 0)), (.sc (.int .i64 0)), (.sc (.int .i64 0)), (.slice none 0), (.sc (.int .i64 0)), (.slice none 0), (.sc (.int .i64 0)), (.sc (.int .i64 0))])))⟩] [4, 6, 8]) (
  .seq (
  .reg [⟨(some 25), none, (.q (.mkf 198 [] [(.t 6), (.t 8)]))⟩,
    ⟨(some 26), none, (.ac (.callf 197 [(.t 25)]))⟩,
    ⟨(some 24), none, (.q (.mov (.t 26)))⟩,
    ⟨(some 27), none, (.q (.ext 0 (.t 24)))⟩,
    ⟨(some 28), none, (.q (.ext 1 (.t 24)))⟩,
    ⟨(some 9), none, (.al (.alloc (.agg [1, 1] [(.sc (.int .i64 0)), (.sc (.int .i64 0))])))⟩,
    ⟨none, none, (.ac (.st 2 (.t 9) (.t 27)))⟩,
    ⟨(some 10), none, (.q (.mov (.t 28)))⟩] [4, 6, 8, 9, 10]) (
  .seq (
  .seq (
  .draw [(0, ⟨(some 29), none, (.q (.mov (.t 10)))⟩, 0),
    (1, ⟨(some 30), none, (.q (.mov (.t 29)))⟩, 0),
    (2, ⟨(some 31), (some (30, false)), (.rd (.ld true 13 (.t 8)))⟩, 0),
    (3, ⟨(some 32), (some (30, false)), (.ac (.callf 76 [(.t 31)]))⟩, 0),
    (4, ⟨(some 33), (some (30, false)), (.q (.un .not (.t 32)))⟩, 0),
    (5, ⟨(some 34), none, (.q (.pick (.t 30) (.k (.bool true)) (.t 33)))⟩, 0),
    (6, ⟨(some 35), none, (.q (.mov (.t 34)))⟩, 0),
    (7, ⟨(some 36), (some (35, false)), (.rd (.ld true 13 (.t 8)))⟩, 0),
    (8, ⟨(some 37), (some (35, false)), (.ac (.callf 131 [(.t 36)]))⟩, 0),
    (9, ⟨(some 38), (some (35, false)), (.rd (.ld false 1 (.t 6)))⟩, 1),
    (10, ⟨(some 39), (some (35, false)), (.ac (.callf 201 [(.t 37), (.t 38)]))⟩, 0),
    (11, ⟨(some 40), (some (35, false)), (.q (.un .not (.t 39)))⟩, 0),
    (12, ⟨(some 41), none, (.q (.pick (.t 35) (.k (.bool true)) (.t 40)))⟩, 0)] [4, 8, 9, 41]) (
  .cond (.t 41) (
   .seq (
   .reg [⟨(some 42), none, (.q (.bld (.agg [1, 1, 1, 1, 1, 1, 1, 1, 1, 1, 1, 1, 1] [(.sc (.int .i64 0)), (.sc (.int .i64 0)), (.sc (.int .i64 0)), (.sc (.int .i64 0)), (.sc (.bool false)), (.sc (.int .u64 0)), (.sc (.int .i64 0)), (.sc (.int .i64 0)), (.slice none 0), (.sc (.int .i64 0)), (.slice none 0), (.sc (.int .i64 0)), (.sc (.int .i64 0))]) []))⟩,
     ⟨none, none, (.ac (.st 13 (.t 4) (.t 42)))⟩,
     ⟨(some 5), none, (.q (.mov (.k (.int .i64 2))))⟩] [4, 5, 9]) (
   .ret)) (
   .skip))) (
  .seq (
  .reg [⟨(some 43), none, (.rd (.ld true 13 (.t 8)))⟩,
    ⟨none, none, (.ac (.st 13 (.t 4) (.t 43)))⟩,
    ⟨(some 5), none, (.q (.mov (.k (.int .i64 0))))⟩] [4, 5, 9]) (
  .ret)))))))),
  [.cell 4 true 13, .tmp 5], [4, 9]⟩
noncomputable def g165 : HFn Tryz.prog := ⟨r165, fun K => wslow Tryz.prog K r165.code, fun _ _ hK => wslow_fits hK _ (by decide +kernel)⟩
theorem c165 : chkF Tryz.prog Tryz.f165 r165 = true := by decide +kernel

/-- (*doubletake/window.Window).Note -/
def r166 : RFn := ⟨2,
  .seq (
  .reg [⟨(some 4), none, (.q (.mov (.k (.int .i64 0))))⟩] [0, 1]) (
  .seq (
  .reg [⟨(some 6), none, (.q (.mov (.t 1)))⟩,
    ⟨(some 7), none, (.ac (.callf 183 [(.t 6)]))⟩,
    ⟨(some 1), none, (.q (.mov (.t 7)))⟩] [0, 1]) (
  .seq (
  .reg [⟨(some 8), none, (.q (.mov (.t 1)))⟩,
    ⟨(some 9), none, (.q (.mov (.t 0)))⟩,
    ⟨(some 10), none, (.q (.nchk (.t 9)))⟩,
    ⟨(some 11), none, (.q (.fld 1 1 (.t 10)))⟩,
    ⟨(some 12), none, (.rd (.ld false 1 (.t 11)))⟩,
    ⟨(some 13), none, (.ac (.callf 202 [(.t 8), (.t 12)]))⟩,
    ⟨(some 5), none, (.q (.mov (.t 13)))⟩] [0, 1, 5]) (
  .seq (
  .block 0 (
   .seq (
   .reg [⟨(some 25), none, (.q (.mov (.t 0)))⟩,
     ⟨(some 26), none, (.q (.nchk (.t 25)))⟩,
     ⟨(some 27), none, (.q (.fld 0 0 (.t 26)))⟩,
     ⟨(some 28), none, (.rd (.ld false 1 (.t 27)))⟩,
     ⟨(some 29), none, (.q (.un .not (.t 28)))⟩,
     ⟨(some 24), none, (.q (.mov (.t 29)))⟩] [0, 1, 5, 24]) (
   .cond (.t 24) (
    .reg [⟨(some 30), none, (.q (.mov (.t 0)))⟩,
      ⟨(some 31), none, (.q (.mov (.t 0)))⟩,
      ⟨(some 32), none, (.q (.mov (.t 1)))⟩,
      ⟨(some 33), none, (.q (.nchk (.t 30)))⟩,
      ⟨(some 34), none, (.q (.fld 0 0 (.t 33)))⟩,
      ⟨none, none, (.ac (.st 1 (.t 34) (.k (.bool true))))⟩,
      ⟨(some 35), none, (.q (.nchk (.t 31)))⟩,
      ⟨(some 36), none, (.q (.fld 1 1 (.t 35)))⟩,
      ⟨none, none, (.ac (.st 1 (.t 36) (.t 32)))⟩] []) (
    .seq (
    .reg [⟨(some 38), none, (.q (.mov (.t 5)))⟩,
      ⟨(some 39), none, (.q (.bin .gtr 3 (.t 38) (.k (.int .i64 0))))⟩,
      ⟨(some 37), none, (.q (.mov (.t 39)))⟩] [0, 1, 5, 37]) (
    .cond (.t 37) (
     .seq (
     .draw [(7, ⟨(some 47), none, (.q (.mov (.t 5)))⟩, 0),
       (8, ⟨(some 48), none, (.ac (.callf 203 [(.t 47)]))⟩, 0),
       (0, ⟨(some 40), none, (.q (.mov (.t 0)))⟩, 1),
       (1, ⟨(some 41), none, (.q (.mov (.t 0)))⟩, 1),
       (2, ⟨(some 42), none, (.q (.nchk (.t 41)))⟩, 1),
       (3, ⟨(some 43), none, (.q (.fld 2 2 (.t 42)))⟩, 1),
       (4, ⟨(some 44), none, (.rd (.ld false 1 (.t 43)))⟩, 1),
       (5, ⟨(some 45), none, (.q (.mov (.t 5)))⟩, 1),
       (6, ⟨(some 46), none, (.q (.bin .shl 39 (.t 44) (.t 45)))⟩, 1),
       (9, ⟨(some 49), none, (.q (.bin .or 39 (.t 46) (.t 48)))⟩, 0),
       (10, ⟨(some 50), none, (.q (.nchk (.t 40)))⟩, 0),
       (11, ⟨(some 51), none, (.q (.fld 2 2 (.t 50)))⟩, 0),
       (12, ⟨none, none, (.ac (.st 1 (.t 51) (.t 49)))⟩, 0)] [0, 1]) (
     .reg [⟨(some 52), none, (.q (.mov (.t 0)))⟩,
       ⟨(some 53), none, (.q (.mov (.t 1)))⟩,
       ⟨(some 54), none, (.q (.nchk (.t 52)))⟩,
       ⟨(some 55), none, (.q (.fld 1 1 (.t 54)))⟩,
       ⟨none, none, (.ac (.st 1 (.t 55) (.t 53)))⟩] [])) (
     .seq (
     .reg [⟨(some 57), none, (.q (.mov (.t 5)))⟩,
       ⟨(some 58), none, (.q (.bin .lss 3 (.t 57) (.k (.int .i64 (-64)))))⟩,
       ⟨(some 56), none, (.q (.mov (.t 58)))⟩] [0, 5, 56]) (
     .cond (.t 56) (
      .seq (
      .reg [⟨(some 4), none, (.q (.mov (.k (.int .i64 3))))⟩] [4]) (
      .ret)) (
      .seq (
      .draw [(0, ⟨(some 60), none, (.q (.mov (.t 5)))⟩, 0),
        (1, ⟨(some 61), none, (.q (.bin .eql 3 (.t 60) (.k (.int .i64 0))))⟩, 0),
        (2, ⟨(some 62), none, (.q (.mov (.t 61)))⟩, 0),
        (7, ⟨(some 67), (some (62, false)), (.q (.mov (.t 5)))⟩, 0),
        (8, ⟨(some 68), (some (62, false)), (.q (.un .neg (.t 67)))⟩, 0),
        (9, ⟨(some 69), (some (62, false)), (.ac (.callf 203 [(.t 68)]))⟩, 0),
        (3, ⟨(some 63), (some (62, false)), (.q (.mov (.t 0)))⟩, 1),
        (4, ⟨(some 64), (some (62, false)), (.q (.nchk (.t 63)))⟩, 1),
        (5, ⟨(some 65), (some (62, false)), (.q (.fld 2 2 (.t 64)))⟩, 1),
        (6, ⟨(some 66), (some (62, false)), (.rd (.ld false 1 (.t 65)))⟩, 1),
        (10, ⟨(some 70), (some (62, false)), (.q (.bin .and 39 (.t 66) (.t 69)))⟩, 0),
        (11, ⟨(some 71), (some (62, false)), (.q (.bin .gtr 39 (.t 70) (.k (.int .u64 0))))⟩, 0),
        (12, ⟨(some 72), none, (.q (.pick (.t 62) (.k (.bool true)) (.t 71)))⟩, 0),
        (13, ⟨(some 59), none, (.q (.mov (.t 72)))⟩, 0)] [0, 5, 59]) (
      .cond (.t 59) (
       .seq (
       .reg [⟨(some 4), none, (.q (.mov (.k (.int .i64 2))))⟩] [4]) (
       .ret)) (
       .draw [(4, ⟨(some 18), none, (.q (.mov (.t 5)))⟩, 0),
         (5, ⟨(some 19), none, (.q (.un .neg (.t 18)))⟩, 0),
         (6, ⟨(some 20), none, (.ac (.callf 203 [(.t 19)]))⟩, 0),
         (0, ⟨(some 14), none, (.q (.mov (.t 0)))⟩, 1),
         (1, ⟨(some 15), none, (.q (.nchk (.t 14)))⟩, 1),
         (2, ⟨(some 16), none, (.q (.fld 2 2 (.t 15)))⟩, 1),
         (3, ⟨(some 17), none, (.rd (.ld false 1 (.t 16)))⟩, 1),
         (7, ⟨(some 21), none, (.q (.bin .or 39 (.t 17) (.t 20)))⟩, 0),
         (8, ⟨(some 22), none, (.q (.nchk (.t 14)))⟩, 0),
         (9, ⟨(some 23), none, (.q (.fld 2 2 (.t 22)))⟩, 0),
         (10, ⟨none, none, (.ac (.st 1 (.t 23) (.t 21)))⟩, 0)] [])))))))))) (
  .seq (
  .reg [⟨(some 4), none, (.q (.mov (.k (.int .i64 1))))⟩] [4]) (
  .ret))))),
  [.tmp 4], []⟩
noncomputable def g166 : HFn Tryz.prog := ⟨r166, fun K => wslow Tryz.prog K r166.code, fun _ _ hK => wslow_fits hK _ (by decide +kernel)⟩
theorem c166 : chkF Tryz.prog Tryz.f166 r166 = true := by decide +kernel

/-- doubletake/window.Covers -/
def r167 : RFn := ⟨3,
  .seq (
  .reg [⟨(some 6), none, (.q (.mov (.k (.bool false))))⟩] [0, 1, 2]) (
  .seq (
  .reg [⟨(some 8), none, (.q (.mov (.t 2)))⟩,
    ⟨(some 9), none, (.q (.mov (.t 0)))⟩,
    ⟨(some 10), none, (.ac (.callf 202 [(.t 8), (.t 9)]))⟩,
    ⟨(some 7), none, (.q (.mov (.t 10)))⟩] [1, 7]) (
  .seq (
  .reg [⟨(some 11), none, (.q (.mov (.t 7)))⟩,
    ⟨(some 12), none, (.q (.bin .eql 3 (.t 11) (.k (.int .i64 0))))⟩,
    ⟨(some 13), none, (.q (.mov (.t 12)))⟩,
    ⟨(some 14), (some (13, false)), (.q (.mov (.t 1)))⟩,
    ⟨(some 15), (some (13, false)), (.q (.mov (.t 7)))⟩,
    ⟨(some 16), (some (13, false)), (.q (.un .neg (.t 15)))⟩,
    ⟨(some 17), (some (13, false)), (.ac (.callf 203 [(.t 16)]))⟩,
    ⟨(some 18), (some (13, false)), (.q (.bin .and 39 (.t 14) (.t 17)))⟩,
    ⟨(some 19), (some (13, false)), (.q (.bin .gtr 39 (.t 18) (.k (.int .u64 0))))⟩,
    ⟨(some 20), none, (.q (.pick (.t 13) (.k (.bool true)) (.t 19)))⟩,
    ⟨(some 6), none, (.q (.mov (.t 20)))⟩] [6]) (
  .ret))),
  [.tmp 6], []⟩
noncomputable def g167 : HFn Tryz.prog := ⟨r167, fun K => wslow Tryz.prog K r167.code, fun _ _ hK => wslow_fits hK _ (by decide +kernel)⟩
theorem c167 : chkF Tryz.prog Tryz.f167 r167 = true := by decide +kernel

/-- (*doubletake/meter.Meter).Note -/
def r168 : RFn := ⟨2,
  .seq (
  .reg [⟨(some 4), none, (.q (.mov (.k (.bool false))))⟩] [0, 1]) (
  .seq (
  .seq (
  .reg [⟨(some 6), none, (.q (.mov (.t 1)))⟩,
    ⟨(some 7), none, (.q (.bin .geq 26 (.t 6) (.k (.float .f64 0))))⟩,
    ⟨(some 8), none, (.q (.mov (.t 7)))⟩,
    ⟨(some 9), (some (8, true)), (.q (.mov (.t 1)))⟩,
    ⟨(some 10), (some (8, true)), (.q (.bin .leq 26 (.t 9) (.k (.float .f64 4696837146684686336))))⟩,
    ⟨(some 11), none, (.q (.pick (.t 8) (.t 10) (.k (.bool false))))⟩,
    ⟨(some 12), none, (.q (.un .not (.t 11)))⟩] [0, 1, 12]) (
  .cond (.t 12) (
   .seq (
   .reg [⟨(some 4), none, (.q (.mov (.k (.bool false))))⟩] [4]) (
   .ret)) (
   .skip))) (
  .seq (
  .reg [⟨(some 13), none, (.q (.mov (.t 1)))⟩,
    ⟨(some 14), none, (.ac (.callf 143 [(.t 13)]))⟩,
    ⟨(some 1), none, (.q (.mov (.t 14)))⟩] [0, 1]) (
  .seq (
  .seq (
  .reg [⟨(some 15), none, (.q (.mov (.t 0)))⟩,
    ⟨(some 16), none, (.q (.nchk (.t 15)))⟩,
    ⟨(some 17), none, (.q (.fld 0 0 (.t 16)))⟩,
    ⟨(some 18), none, (.rd (.ld false 1 (.t 17)))⟩,
    ⟨(some 19), none, (.q (.bin .add 3 (.t 18) (.k (.int .i64 1))))⟩,
    ⟨(some 20), none, (.q (.nchk (.t 15)))⟩,
    ⟨(some 21), none, (.q (.fld 0 0 (.t 20)))⟩,
    ⟨none, none, (.ac (.st 1 (.t 21) (.t 19)))⟩] [0, 1]) (
  .seq (
  .reg [⟨(some 22), none, (.q (.mov (.t 0)))⟩,
    ⟨(some 23), none, (.q (.nchk (.t 22)))⟩,
    ⟨(some 24), none, (.q (.fld 0 0 (.t 23)))⟩,
    ⟨(some 25), none, (.rd (.ld false 1 (.t 24)))⟩,
    ⟨(some 26), none, (.q (.bin .eql 3 (.t 25) (.k (.int .i64 1))))⟩] [0, 1, 26]) (
  .cond (.t 26) (
   .seq (
   .reg [⟨(some 27), none, (.q (.mov (.t 0)))⟩,
     ⟨(some 28), none, (.q (.mov (.t 1)))⟩,
     ⟨(some 29), none, (.q (.nchk (.t 27)))⟩,
     ⟨(some 30), none, (.q (.fld 1 1 (.t 29)))⟩,
     ⟨none, none, (.ac (.st 1 (.t 30) (.t 28)))⟩] []) (
   .seq (
   .reg [⟨(some 4), none, (.q (.mov (.k (.bool true))))⟩] [4]) (
   .ret))) (
   .skip)))) (
  .seq (
  .reg [⟨(some 31), none, (.q (.mov (.t 1)))⟩,
    ⟨(some 32), none, (.q (.mov (.t 0)))⟩,
    ⟨(some 33), none, (.q (.nchk (.t 32)))⟩,
    ⟨(some 34), none, (.q (.fld 1 1 (.t 33)))⟩,
    ⟨(some 35), none, (.rd (.ld false 1 (.t 34)))⟩,
    ⟨(some 36), none, (.q (.bin .sub 26 (.t 31) (.t 35)))⟩,
    ⟨(some 5), none, (.q (.mov (.t 36)))⟩] [0, 5]) (
  .seq (
  .draw [(4, ⟨(some 41), none, (.q (.mov (.t 5)))⟩, 0),
    (5, ⟨(some 42), none, (.ac (.callf 143 [(.t 41)]))⟩, 0),
    (0, ⟨(some 37), none, (.q (.mov (.t 0)))⟩, 1),
    (1, ⟨(some 38), none, (.q (.nchk (.t 37)))⟩, 1),
    (2, ⟨(some 39), none, (.q (.fld 2 2 (.t 38)))⟩, 1),
    (3, ⟨(some 40), none, (.rd (.ld false 1 (.t 39)))⟩, 1),
    (6, ⟨(some 43), none, (.q (.mov (.t 0)))⟩, 1),
    (7, ⟨(some 44), none, (.q (.nchk (.t 43)))⟩, 1),
    (8, ⟨(some 45), none, (.q (.fld 2 2 (.t 44)))⟩, 1),
    (9, ⟨(some 46), none, (.rd (.ld false 1 (.t 45)))⟩, 1),
    (10, ⟨(some 47), none, (.q (.bin .sub 26 (.t 42) (.t 46)))⟩, 0),
    (11, ⟨(some 48), none, (.q (.bin .quo 26 (.t 47) (.k (.float .f64 4616189618054758400))))⟩, 0),
    (12, ⟨(some 49), none, (.q (.bin .add 26 (.t 40) (.t 48)))⟩, 0),
    (13, ⟨(some 50), none, (.q (.nchk (.t 37)))⟩, 0),
    (14, ⟨(some 51), none, (.q (.fld 2 2 (.t 50)))⟩, 0),
    (15, ⟨none, none, (.ac (.st 1 (.t 51) (.t 49)))⟩, 0)] [0, 5]) (
  .seq (
  .reg [⟨(some 52), none, (.q (.mov (.t 0)))⟩,
    ⟨(some 53), none, (.q (.nchk (.t 52)))⟩,
    ⟨(some 54), none, (.q (.fld 1 1 (.t 53)))⟩,
    ⟨(some 55), none, (.rd (.ld false 1 (.t 54)))⟩,
    ⟨(some 56), none, (.q (.mov (.t 5)))⟩,
    ⟨(some 57), none, (.q (.bin .quo 26 (.t 56) (.k (.float .f64 4620693217682128896))))⟩,
    ⟨(some 58), none, (.q (.bin .add 26 (.t 55) (.t 57)))⟩,
    ⟨(some 59), none, (.q (.nchk (.t 52)))⟩,
    ⟨(some 60), none, (.q (.fld 1 1 (.t 59)))⟩,
    ⟨none, none, (.ac (.st 1 (.t 60) (.t 58)))⟩] []) (
  .seq (
  .reg [⟨(some 4), none, (.q (.mov (.k (.bool true))))⟩] [4]) (
  .ret)))))))),
  [.tmp 4], []⟩
noncomputable def g168 : HFn Tryz.prog := ⟨r168, fun K => wslow Tryz.prog K r168.code, fun _ _ hK => wslow_fits hK _ (by decide +kernel)⟩
theorem c168 : chkF Tryz.prog Tryz.f168 r168 = true := by decide +kernel

/-- (*doubletake/step.frame).player -/
def r169 : RFn := ⟨2,
  .seq (
  .reg [⟨(some 3), none, (.al (.box (.t 1)))⟩,
    ⟨(some 4), none, (.al (.alloc (.agg [1, 1, 1, 1, 1, 1, 1, 4, 1] [(.sc (.int .i64 0)), (.sc (.int .i64 0)), (.sc (.int .i64 0)), (.sc (.int .i64 0)), (.sc (.int .i64 0)), (.sc (.int .i64 0)), (.sc (.int .i64 0)), (.arr 1 (List.replicate 4 (.sc (.int .i64 0)))), (.sc (.int .i64 0))])))⟩] [0, 3, 4]) (
  .seq (
  .reg [⟨(some 9), none, (.q (.mov (.t 0)))⟩,
    ⟨(some 10), none, (.q (.fld 1 1 (.t 3)))⟩,
    ⟨(some 11), none, (.rd (.ld false 1 (.t 10)))⟩,
    ⟨(some 12), none, (.ac (.callf 204 [(.t 9), (.t 11)]))⟩,
    ⟨(some 5), none, (.al (.alloc (.agg [1, 1, 1] [(.sc (.int .i64 0)), (.sc (.int .i64 0)), (.sc (.int .i64 0))])))⟩,
    ⟨none, none, (.ac (.st 3 (.t 5) (.t 12)))⟩] [0, 3, 4, 5]) (
  .seq (
  .draw [(0, ⟨(some 13), none, (.rd (.ld true 12 (.t 3)))⟩, 0),
    (1, ⟨(some 14), none, (.q (.fld 1 1 (.t 5)))⟩, 0),
    (2, ⟨(some 15), none, (.rd (.ld false 1 (.t 14)))⟩, 0),
    (3, ⟨(some 16), none, (.q (.bin .quo 3 (.t 15) (.k (.int .i64 16))))⟩, 0),
    (4, ⟨(some 17), none, (.q (.fld 2 2 (.t 5)))⟩, 0),
    (5, ⟨(some 18), none, (.rd (.ld false 1 (.t 17)))⟩, 0),
    (6, ⟨(some 19), none, (.q (.bin .quo 3 (.t 18) (.k (.int .i64 16))))⟩, 0),
    (7, ⟨(some 20), none, (.ac (.callf 205 [(.t 13), (.t 16), (.t 19)]))⟩, 0),
    (14, ⟨(some 27), none, (.q (.mov (.t 0)))⟩, 1),
    (15, ⟨(some 28), none, (.ac (.callf 206 [(.t 27)]))⟩, 0),
    (8, ⟨(some 21), none, (.rd (.ld true 3 (.t 5)))⟩, 2),
    (9, ⟨(some 22), none, (.q (.mov (.t 0)))⟩, 2),
    (10, ⟨(some 23), none, (.q (.nchk (.t 22)))⟩, 2),
    (11, ⟨(some 24), none, (.q (.fld 1 10 (.t 23)))⟩, 2),
    (12, ⟨(some 25), none, (.q (.fld 1 1 (.t 24)))⟩, 2),
    (13, ⟨(some 26), none, (.rd (.ld false 1 (.t 25)))⟩, 2),
    (16, ⟨(some 29), none, (.q (.bld (.agg [12, 3, 1, 1, 1] [(.agg [1, 1, 1, 1, 1, 1, 1, 4, 1] [(.sc (.int .i64 0)), (.sc (.int .i64 0)), (.sc (.int .i64 0)), (.sc (.int .i64 0)), (.sc (.int .i64 0)), (.sc (.int .i64 0)), (.sc (.int .i64 0)), (.arr 1 (List.replicate 4 (.sc (.int .i64 0)))), (.sc (.int .i64 0))]), (.agg [1, 1, 1] [(.sc (.int .i64 0)), (.sc (.int .i64 0)), (.sc (.int .i64 0))]), (.sc (.int .u64 0)), (.sc (.int .i64 0)), (.slice none 0)]) [(0, (.t 20)), (1, (.t 21)), (2, (.t 26)), (3, (.t 28))]))⟩, 0),
    (17, ⟨(some 6), none, (.al (.alloc (.agg [12, 3, 1, 1, 1] [(.agg [1, 1, 1, 1, 1, 1, 1, 4, 1] [(.sc (.int .i64 0)), (.sc (.int .i64 0)), (.sc (.int .i64 0)), (.sc (.int .i64 0)), (.sc (.int .i64 0)), (.sc (.int .i64 0)), (.sc (.int .i64 0)), (.arr 1 (List.replicate 4 (.sc (.int .i64 0)))), (.sc (.int .i64 0))]), (.agg [1, 1, 1] [(.sc (.int .i64 0)), (.sc (.int .i64 0)), (.sc (.int .i64 0))]), (.sc (.int .u64 0)), (.sc (.int .i64 0)), (.slice none 0)])))⟩, 2),
    (18, ⟨none, none, (.ac (.st 18 (.t 6) (.t 29)))⟩, 0)] [0, 3, 4, 5, 6]) (
  .seq (
  .draw [(0, ⟨(some 31), none, (.q (.mov (.t 0)))⟩, 0),
    (1, ⟨(some 32), none, (.q (.nchk (.t 31)))⟩, 0),
    (2, ⟨(some 33), none, (.q (.fld 0 0 (.t 32)))⟩, 0),
    (3, ⟨(some 34), none, (.q (.fld 8 8 (.t 33)))⟩, 0),
    (4, ⟨(some 35), none, (.rd (.ld false 1 (.t 34)))⟩, 0),
    (5, ⟨(some 36), none, (.rd (.ld true 18 (.t 6)))⟩, 0),
    (6, ⟨(some 37), none, (.ac (.callf 207 [(.t 35), (.t 36)]))⟩, 0),
    (7, ⟨(some 30), none, (.q (.mov (.t 37)))⟩, 0),
    (8, ⟨(some 38), none, (.q (.ext 0 (.t 30)))⟩, 0),
    (11, ⟨(some 7), none, (.al (.alloc (.agg [1, 1] [(.sc (.int .i64 0)), (.sc (.int .i64 0))])))⟩, 1),
    (12, ⟨none, none, (.ac (.st 18 (.t 6) (.t 38)))⟩, 0),
    (9, ⟨(some 39), none, (.q (.ext 1 (.t 30)))⟩, 1),
    (13, ⟨none, none, (.ac (.st 2 (.t 7) (.t 39)))⟩, 0),
    (10, ⟨(some 40), none, (.q (.ext 2 (.t 30)))⟩, 2),
    (14, ⟨(some 8), none, (.q (.mov (.t 40)))⟩, 0)] [0, 3, 4, 5, 6, 7, 8]) (
  .seq (
  .seq (
  .reg [⟨(some 41), none, (.q (.mov (.t 8)))⟩,
    ⟨(some 42), none, (.q (.un .not (.t 41)))⟩] [0, 3, 4, 5, 6, 7, 42]) (
  .cond (.t 42) (
   .seq (
   .reg [⟨(some 43), none, (.q (.fld 8 11 (.t 3)))⟩,
     ⟨(some 44), none, (.rd (.ld false 1 (.t 43)))⟩,
     ⟨(some 45), none, (.q (.bin .add 3 (.t 44) (.k (.int .i64 1))))⟩,
     ⟨(some 46), none, (.q (.mm false [(.t 45), (.k (.int .i64 65535))]))⟩,
     ⟨(some 47), none, (.q (.fld 8 11 (.t 3)))⟩,
     ⟨none, none, (.ac (.st 1 (.t 47) (.t 46)))⟩] [3, 4, 5, 6, 7]) (
   .seq (
   .reg [⟨(some 48), none, (.rd (.ld true 12 (.t 3)))⟩,
     ⟨none, none, (.ac (.st 12 (.t 4) (.t 48)))⟩] [3, 4, 5, 6, 7]) (
   .ret))) (
   .skip))) (
  .seq (
  .reg [⟨(some 49), none, (.q (.mov (.t 0)))⟩,
    ⟨(some 50), none, (.q (.fld 2 15 (.t 6)))⟩,
    ⟨(some 51), none, (.rd (.ld false 1 (.t 50)))⟩,
    ⟨(some 52), none, (.q (.nchk (.t 49)))⟩,
    ⟨(some 53), none, (.q (.fld 1 10 (.t 52)))⟩,
    ⟨(some 54), none, (.q (.fld 1 1 (.t 53)))⟩,
    ⟨none, none, (.ac (.st 1 (.t 54) (.t 51)))⟩] [0, 3, 4, 5, 6, 7]) (
  .seq (
  .draw [(1, ⟨(some 56), none, (.q (.mov (.t 0)))⟩, 0),
    (2, ⟨(some 57), none, (.q (.nchk (.t 56)))⟩, 0),
    (3, ⟨(some 58), none, (.q (.fld 3 213 (.t 57)))⟩, 0),
    (4, ⟨(some 59), none, (.rd (.ld false 1 (.t 58)))⟩, 0),
    (5, ⟨(some 60), none, (.q (.fld 4 17 (.t 6)))⟩, 0),
    (6, ⟨(some 61), none, (.rd (.ld false 1 (.t 60)))⟩, 0),
    (7, ⟨(some 62), none, (.ac (.app false 12 96 (.t 59) (.t 61)))⟩, 0),
    (0, ⟨(some 55), none, (.q (.mov (.t 0)))⟩, 1),
    (8, ⟨(some 63), none, (.q (.nchk (.t 55)))⟩, 0),
    (9, ⟨(some 64), none, (.q (.fld 3 213 (.t 63)))⟩, 0),
    (10, ⟨none, none, (.ac (.st 1 (.t 64) (.t 62)))⟩, 0)] [3, 4, 5, 6, 7]) (
  .seq (
  .reg [⟨(some 65), none, (.q (.fld 0 0 (.t 6)))⟩,
    ⟨(some 66), none, (.rd (.ld true 12 (.t 65)))⟩,
    ⟨none, none, (.ac (.st 12 (.t 4) (.t 66)))⟩] [3, 4, 5, 6, 7]) (
  .ret)))))))),
  [.cell 4 true 12], [3, 4, 5, 6, 7]⟩
noncomputable def g169 : HFn Tryz.prog := ⟨r169, fun K => wslow Tryz.prog K r169.code, fun _ _ hK => wslow_fits hK _ (by decide +kernel)⟩
theorem c169 : chkF Tryz.prog Tryz.f169 r169 = true := by decide +kernel

/-! doubletake/body.Move -/
def o170n0 : List RI := [⟨(some 1), none, (.al (.box (.t 0)))⟩, ⟨(some 2), none, (.al (.alloc (.agg [1, 1, 1, 1, 1, 1, 1, 4, 1] [(.sc (.int .i64 0)), (.sc (.int .i64 0)), (.sc (.int .i64 0)), (.sc (.int .i64 0)), (.sc (.int .i64 0)), (.sc (.int .i64 0)), (.sc (.int .i64 0)), (.arr 1 (List.replicate 4 (.sc (.int .i64 0)))), (.sc (.int .i64 0))])))⟩, ⟨(some 3), none, (.q (.mov (.k (.bool false))))⟩]
noncomputable def b170n0 (K : KTC) (k : KS) (a0 : AV) (c : KN) (p : KV) : Kr :=
  pAl (evAl [(0, a0)] k.nx (.box (.t 0))) k fun v0 k0 =>
  xAlloc (.agg [1, 1, 1, 1, 1, 1, 1, 4, 1] [(.sc (.int .i64 0)), (.sc (.int .i64 0)), (.sc (.int .i64 0)), (.sc (.int .i64 0)), (.sc (.int .i64 0)), (.sc (.int .i64 0)), (.sc (.int .i64 0)), (.arr 1 (List.replicate 4 (.sc (.int .i64 0)))), (.sc (.int .i64 0))]) k0 fun v1 k1 =>
  c [(1, v0), (2, v1)] k1
theorem e170n0 (K : KTC) (k : KS) (a0 : AV) (c : KN) (p : KV) : b170n0 K k a0 c p = wReg Tryz.prog K [1, 2] o170n0 [(0, a0)] k c p := by unfold b170n0; simp only [xAlloc_eq]; kernel_rfl
noncomputable def s170n0 (K : KTC) (e : Env) (k : KS) (c : KN) (p : KV) : Kr := gt e 0 fun a0 => b170n0 K k a0 c p
theorem p170n0 (K : KTC) (K' : KT) (hK : CSound K K') : FitsC Tryz.prog K' (.reg (s170n0 K)) (.reg o170n0 [1, 2]) := fun e k c p y h => by
  obtain ⟨a0, h0, h⟩ := gt_some h
  exact wreg_fit hK (by decide +kernel) (keep_cons h0 (keep_nil)) (e170n0 K k a0 c p) h
def o170n1 : List RI := [⟨(some 4), none, (.rd (.ld true 12 (.t 1)))⟩, ⟨(some 5), none, (.ac (.callf 195 [(.t 4)]))⟩, ⟨(some 6), none, (.q (.un .not (.t 5)))⟩, ⟨(some 7), none, (.q (.mov (.t 6)))⟩, ⟨(some 8), (some (7, false)), (.q (.fld 0 0 (.t 1)))⟩, ⟨(some 9), (some (7, false)), (.rd (.ld false 1 (.t 8)))⟩, ⟨(some 10), (some (7, false)), (.q (.bin .eql 3 (.t 9) (.k (.int .i64 0))))⟩, ⟨(some 11), none, (.q (.pick (.t 7) (.k (.bool true)) (.t 10)))⟩]
def o170n2 : List RI := [⟨(some 12), none, (.q (.bld (.agg [1, 1, 1, 1, 1, 1, 1, 4, 1] [(.sc (.int .i64 0)), (.sc (.int .i64 0)), (.sc (.int .i64 0)), (.sc (.int .i64 0)), (.sc (.int .i64 0)), (.sc (.int .i64 0)), (.sc (.int .i64 0)), (.arr 1 (List.replicate 4 (.sc (.int .i64 0)))), (.sc (.int .i64 0))]) []))⟩, ⟨none, none, (.ac (.st 12 (.t 2) (.t 12)))⟩, ⟨(some 3), none, (.q (.mov (.k (.bool false))))⟩]
noncomputable def b170n2 (K : KTC) (k : KS) (a2 a1 : AV) (c : KN) (p : KV) : Kr :=
  (kQ Tryz.prog [] (.bld (.agg [1, 1, 1, 1, 1, 1, 1, 4, 1] [(.sc (.int .i64 0)), (.sc (.int .i64 0)), (.sc (.int .i64 0)), (.sc (.int .i64 0)), (.sc (.int .i64 0)), (.sc (.int .i64 0)), (.sc (.int .i64 0)), (.arr 1 (List.replicate 4 (.sc (.int .i64 0)))), (.sc (.int .i64 0))]) [])).bind fun v0 =>
  pCall (kA (fun _ _ _ => none) [(2, a2), (12, v0)] k (.st 12 (.t 2) (.t 12))) (fun v1 k1 =>
  c [(1, a1), (2, a2), (3, (.sc (.bool false)))] k1) (p)
theorem e170n2 (K : KTC) (k : KS) (a2 a1 : AV) (c : KN) (p : KV) : b170n2 K k a2 a1 c p = wReg Tryz.prog K [1, 2, 3] o170n2 [(2, a2), (1, a1)] k c p := by unfold b170n2; kernel_rfl
noncomputable def s170n2 (K : KTC) (e : Env) (k : KS) (c : KN) (p : KV) : Kr := gt e 2 fun a2 => gt e 1 fun a1 => b170n2 K k a2 a1 c p
theorem p170n2 (K : KTC) (K' : KT) (hK : CSound K K') : FitsC Tryz.prog K' (.reg (s170n2 K)) (.reg o170n2 [1, 2, 3]) := fun e k c p y h => by
  obtain ⟨a2, h2, h⟩ := gt_some h
  obtain ⟨a1, h1, h⟩ := gt_some h
  exact wreg_fit hK (by decide +kernel) (keep_cons h2 (keep_cons h1 (keep_nil))) (e170n2 K k a2 a1 c p) h
def o170n3 : List RI := [⟨(some 13), none, (.q (.fld 6 6 (.t 1)))⟩, ⟨(some 14), none, (.rd (.ld false 1 (.t 13)))⟩, ⟨(some 15), none, (.q (.bin .add 3 (.t 14) (.k (.int .i64 1))))⟩, ⟨(some 16), none, (.q (.mm false [(.t 15), (.k (.int .i64 600))]))⟩, ⟨(some 17), none, (.q (.fld 6 6 (.t 1)))⟩, ⟨none, none, (.ac (.st 1 (.t 17) (.t 16)))⟩]
noncomputable def b170n3 (K : KTC) (k : KS) (a1 a2 : AV) (c : KN) (p : KV) : Kr :=
  xFld 6 6 a1 fun v0 =>
  xLd k.t false 1 v0 fun v1 =>
  xAdd 3 v1 (.sc (.int .i64 1)) fun v2 =>
  xMM false v2 (.sc (.int .i64 600)) fun v3 =>
  xFld 6 6 a1 fun v4 =>
  pCall (kA (fun _ _ _ => none) [(17, v4), (16, v3)] k (.st 1 (.t 17) (.t 16))) (fun v5 k5 =>
  c [(1, a1), (2, a2)] k5) (p)
theorem e170n3 (K : KTC) (k : KS) (a1 a2 : AV) (c : KN) (p : KV) : b170n3 K k a1 a2 c p = wReg Tryz.prog K [1, 2] o170n3 [(1, a1), (2, a2)] k c p := by unfold b170n3; simp only [xMM_eq, xAdd_eq, xLd_eq, xFld_eq]; kernel_rfl
noncomputable def s170n3 (K : KTC) (e : Env) (k : KS) (c : KN) (p : KV) : Kr := gt e 1 fun a1 => gt e 2 fun a2 => b170n3 K k a1 a2 c p
theorem p170n3 (K : KTC) (K' : KT) (hK : CSound K K') : FitsC Tryz.prog K' (.reg (s170n3 K)) (.reg o170n3 [1, 2]) := fun e k c p y h => by
  obtain ⟨a1, h1, h⟩ := gt_some h
  obtain ⟨a2, h2, h⟩ := gt_some h
  exact wreg_fit hK (by decide +kernel) (keep_cons h1 (keep_cons h2 (keep_nil))) (e170n3 K k a1 a2 c p) h
def o170n4 : List RI := [⟨(some 18), none, (.q (.fld 2 2 (.t 1)))⟩, ⟨(some 19), none, (.rd (.ld false 1 (.t 18)))⟩, ⟨(some 20), none, (.q (.fld 4 4 (.t 1)))⟩, ⟨(some 21), none, (.rd (.ld false 1 (.t 20)))⟩, ⟨(some 22), none, (.q (.bin .add 3 (.t 19) (.t 21)))⟩, ⟨(some 23), none, (.q (.fld 3 3 (.t 1)))⟩, ⟨(some 24), none, (.rd (.ld false 1 (.t 23)))⟩, ⟨(some 25), none, (.q (.fld 5 5 (.t 1)))⟩, ⟨(some 26), none, (.rd (.ld false 1 (.t 25)))⟩, ⟨(some 27), none, (.q (.bin .add 3 (.t 24) (.t 26)))⟩, ⟨(some 28), none, (.q (.fld 2 2 (.t 1)))⟩, ⟨none, none, (.ac (.st 1 (.t 28) (.t 22)))⟩, ⟨(some 29), none, (.q (.fld 3 3 (.t 1)))⟩, ⟨none, none, (.ac (.st 1 (.t 29) (.t 27)))⟩]
noncomputable def b170n4 (K : KTC) (k : KS) (a1 a2 : AV) (c : KN) (p : KV) : Kr :=
  xFld 2 2 a1 fun v0 =>
  xLd k.t false 1 v0 fun v1 =>
  xFld 4 4 a1 fun v2 =>
  xLd k.t false 1 v2 fun v3 =>
  xAdd 3 v1 v3 fun v4 =>
  xFld 3 3 a1 fun v5 =>
  xLd k.t false 1 v5 fun v6 =>
  xFld 5 5 a1 fun v7 =>
  xLd k.t false 1 v7 fun v8 =>
  xAdd 3 v6 v8 fun v9 =>
  xFld 2 2 a1 fun v10 =>
  pCall (kA (fun _ _ _ => none) [(28, v10), (22, v4)] k (.st 1 (.t 28) (.t 22))) (fun v11 k11 =>
  xFld 3 3 a1 fun v12 =>
  pCall (kA (fun _ _ _ => none) [(29, v12), (27, v9)] k11 (.st 1 (.t 29) (.t 27))) (fun v13 k13 =>
  c [(1, a1), (2, a2)] k13) (p)) (p)
theorem e170n4 (K : KTC) (k : KS) (a1 a2 : AV) (c : KN) (p : KV) : b170n4 K k a1 a2 c p = wReg Tryz.prog K [1, 2] o170n4 [(1, a1), (2, a2)] k c p := by unfold b170n4; simp only [xAdd_eq, xLd_eq, xFld_eq]; kernel_rfl
noncomputable def s170n4 (K : KTC) (e : Env) (k : KS) (c : KN) (p : KV) : Kr := gt e 1 fun a1 => gt e 2 fun a2 => b170n4 K k a1 a2 c p
theorem p170n4 (K : KTC) (K' : KT) (hK : CSound K K') : FitsC Tryz.prog K' (.reg (s170n4 K)) (.reg o170n4 [1, 2]) := fun e k c p y h => by
  obtain ⟨a1, h1, h⟩ := gt_some h
  obtain ⟨a2, h2, h⟩ := gt_some h
  exact wreg_fit hK (by decide +kernel) (keep_cons h1 (keep_cons h2 (keep_nil))) (e170n4 K k a1 a2 c p) h
def o170n5 : List RI := [⟨(some 30), none, (.q (.fld 0 0 (.t 1)))⟩, ⟨(some 31), none, (.rd (.ld false 1 (.t 30)))⟩, ⟨(some 32), none, (.q (.bin .eql 3 (.t 31) (.k (.int .i64 1))))⟩]
noncomputable def b170n5 (K : KTC) (k : KS) (a1 a2 : AV) (c : KN) (p : KV) : Kr :=
  xFld 0 0 a1 fun v0 =>
  xLd k.t false 1 v0 fun v1 =>
  xEql 3 v1 (.sc (.int .i64 1)) fun v2 =>
  c [(1, a1), (2, a2), (32, v2)] k
theorem e170n5 (K : KTC) (k : KS) (a1 a2 : AV) (c : KN) (p : KV) : b170n5 K k a1 a2 c p = wReg Tryz.prog K [1, 2, 32] o170n5 [(1, a1), (2, a2)] k c p := by unfold b170n5; simp only [xEql_eq, xLd_eq, xFld_eq]; kernel_rfl
noncomputable def s170n5 (K : KTC) (e : Env) (k : KS) (c : KN) (p : KV) : Kr := gt e 1 fun a1 => gt e 2 fun a2 => b170n5 K k a1 a2 c p
theorem p170n5 (K : KTC) (K' : KT) (hK : CSound K K') : FitsC Tryz.prog K' (.reg (s170n5 K)) (.reg o170n5 [1, 2, 32]) := fun e k c p y h => by
  obtain ⟨a1, h1, h⟩ := gt_some h
  obtain ⟨a2, h2, h⟩ := gt_some h
  exact wreg_fit hK (by decide +kernel) (keep_cons h1 (keep_cons h2 (keep_nil))) (e170n5 K k a1 a2 c p) h
def o170n6 : List RI := [⟨(some 34), none, (.q (.fld 2 2 (.t 1)))⟩, ⟨(some 35), none, (.rd (.ld false 1 (.t 34)))⟩, ⟨(some 36), none, (.q (.fld 4 4 (.t 1)))⟩, ⟨(some 37), none, (.rd (.ld false 1 (.t 36)))⟩, ⟨(some 38), none, (.ac (.callf 208 [(.t 35), (.t 37)]))⟩, ⟨(some 33), none, (.q (.mov (.t 38)))⟩, ⟨(some 39), none, (.q (.ext 0 (.t 33)))⟩, ⟨(some 40), none, (.q (.ext 1 (.t 33)))⟩, ⟨(some 41), none, (.q (.fld 2 2 (.t 1)))⟩, ⟨none, none, (.ac (.st 1 (.t 41) (.t 39)))⟩, ⟨(some 42), none, (.q (.fld 4 4 (.t 1)))⟩, ⟨none, none, (.ac (.st 1 (.t 42) (.t 40)))⟩]
noncomputable def b170n6 (K : KTC) (k : KS) (a1 a2 : AV) (c : KN) (p : KV) : Kr :=
  xFld 2 2 a1 fun v0 =>
  xLd k.t false 1 v0 fun v1 =>
  xFld 4 4 a1 fun v2 =>
  xLd k.t false 1 v2 fun v3 =>
  K 208 [v1, v3] k (fun v4 k4 =>
  xExt 0 v4 fun v5 =>
  xExt 1 v4 fun v6 =>
  xFld 2 2 a1 fun v7 =>
  pCall (kA (fun _ _ _ => none) [(41, v7), (39, v5)] k4 (.st 1 (.t 41) (.t 39))) (fun v8 k8 =>
  xFld 4 4 a1 fun v9 =>
  pCall (kA (fun _ _ _ => none) [(42, v9), (40, v6)] k8 (.st 1 (.t 42) (.t 40))) (fun v10 k10 =>
  c [(1, a1), (2, a2)] k10) (p)) (p)) (p)
theorem e170n6 (K : KTC) (k : KS) (a1 a2 : AV) (c : KN) (p : KV) : b170n6 K k a1 a2 c p = wReg Tryz.prog K [1, 2] o170n6 [(1, a1), (2, a2)] k c p := by unfold b170n6; simp only [xExt_eq, xLd_eq, xFld_eq]; kernel_rfl
noncomputable def s170n6 (K : KTC) (e : Env) (k : KS) (c : KN) (p : KV) : Kr := gt e 1 fun a1 => gt e 2 fun a2 => b170n6 K k a1 a2 c p
theorem p170n6 (K : KTC) (K' : KT) (hK : CSound K K') : FitsC Tryz.prog K' (.reg (s170n6 K)) (.reg o170n6 [1, 2]) := fun e k c p y h => by
  obtain ⟨a1, h1, h⟩ := gt_some h
  obtain ⟨a2, h2, h⟩ := gt_some h
  exact wreg_fit hK (by decide +kernel) (keep_cons h1 (keep_cons h2 (keep_nil))) (e170n6 K k a1 a2 c p) h
def o170n7 : List RI := [⟨(some 44), none, (.q (.fld 3 3 (.t 1)))⟩, ⟨(some 45), none, (.rd (.ld false 1 (.t 44)))⟩, ⟨(some 46), none, (.q (.fld 5 5 (.t 1)))⟩, ⟨(some 47), none, (.rd (.ld false 1 (.t 46)))⟩, ⟨(some 48), none, (.ac (.callf 208 [(.t 45), (.t 47)]))⟩, ⟨(some 43), none, (.q (.mov (.t 48)))⟩, ⟨(some 49), none, (.q (.ext 0 (.t 43)))⟩, ⟨(some 50), none, (.q (.ext 1 (.t 43)))⟩, ⟨(some 51), none, (.q (.fld 3 3 (.t 1)))⟩, ⟨none, none, (.ac (.st 1 (.t 51) (.t 49)))⟩, ⟨(some 52), none, (.q (.fld 5 5 (.t 1)))⟩, ⟨none, none, (.ac (.st 1 (.t 52) (.t 50)))⟩]
noncomputable def b170n7 (K : KTC) (k : KS) (a1 a2 : AV) (c : KN) (p : KV) : Kr :=
  xFld 3 3 a1 fun v0 =>
  xLd k.t false 1 v0 fun v1 =>
  xFld 5 5 a1 fun v2 =>
  xLd k.t false 1 v2 fun v3 =>
  K 208 [v1, v3] k (fun v4 k4 =>
  xExt 0 v4 fun v5 =>
  xExt 1 v4 fun v6 =>
  xFld 3 3 a1 fun v7 =>
  pCall (kA (fun _ _ _ => none) [(51, v7), (49, v5)] k4 (.st 1 (.t 51) (.t 49))) (fun v8 k8 =>
  xFld 5 5 a1 fun v9 =>
  pCall (kA (fun _ _ _ => none) [(52, v9), (50, v6)] k8 (.st 1 (.t 52) (.t 50))) (fun v10 k10 =>
  c [(1, a1), (2, a2)] k10) (p)) (p)) (p)
theorem e170n7 (K : KTC) (k : KS) (a1 a2 : AV) (c : KN) (p : KV) : b170n7 K k a1 a2 c p = wReg Tryz.prog K [1, 2] o170n7 [(1, a1), (2, a2)] k c p := by unfold b170n7; simp only [xExt_eq, xLd_eq, xFld_eq]; kernel_rfl
noncomputable def s170n7 (K : KTC) (e : Env) (k : KS) (c : KN) (p : KV) : Kr := gt e 1 fun a1 => gt e 2 fun a2 => b170n7 K k a1 a2 c p
theorem p170n7 (K : KTC) (K' : KT) (hK : CSound K K') : FitsC Tryz.prog K' (.reg (s170n7 K)) (.reg o170n7 [1, 2]) := fun e k c p y h => by
  obtain ⟨a1, h1, h⟩ := gt_some h
  obtain ⟨a2, h2, h⟩ := gt_some h
  exact wreg_fit hK (by decide +kernel) (keep_cons h1 (keep_cons h2 (keep_nil))) (e170n7 K k a1 a2 c p) h
def o170n8 : List RI := [⟨(some 53), none, (.rd (.ld true 12 (.t 1)))⟩, ⟨none, none, (.ac (.st 12 (.t 2) (.t 53)))⟩, ⟨(some 3), none, (.q (.mov (.k (.bool true))))⟩]
noncomputable def b170n8 (K : KTC) (k : KS) (a1 a2 : AV) (c : KN) (p : KV) : Kr :=
  xLd k.t true 12 a1 fun v0 =>
  pCall (kA (fun _ _ _ => none) [(2, a2), (53, v0)] k (.st 12 (.t 2) (.t 53))) (fun v1 k1 =>
  c [(1, a1), (2, a2), (3, (.sc (.bool true)))] k1) (p)
theorem e170n8 (K : KTC) (k : KS) (a1 a2 : AV) (c : KN) (p : KV) : b170n8 K k a1 a2 c p = wReg Tryz.prog K [1, 2, 3] o170n8 [(1, a1), (2, a2)] k c p := by unfold b170n8; simp only [xLd_eq]; kernel_rfl
noncomputable def s170n8 (K : KTC) (e : Env) (k : KS) (c : KN) (p : KV) : Kr := gt e 1 fun a1 => gt e 2 fun a2 => b170n8 K k a1 a2 c p
theorem p170n8 (K : KTC) (K' : KT) (hK : CSound K K') : FitsC Tryz.prog K' (.reg (s170n8 K)) (.reg o170n8 [1, 2, 3]) := fun e k c p y h => by
  obtain ⟨a1, h1, h⟩ := gt_some h
  obtain ⟨a2, h2, h⟩ := gt_some h
  exact wreg_fit hK (by decide +kernel) (keep_cons h1 (keep_cons h2 (keep_nil))) (e170n8 K k a1 a2 c p) h
def o170n9 : List RI := [⟨(some 54), none, (.q (.fld 6 6 (.t 1)))⟩, ⟨(some 55), none, (.rd (.ld false 1 (.t 54)))⟩, ⟨(some 56), none, (.q (.bin .gtr 3 (.t 55) (.k (.int .i64 40))))⟩, ⟨(some 57), none, (.q (.mov (.t 56)))⟩, ⟨(some 58), (some (57, false)), (.q (.fld 2 2 (.t 1)))⟩, ⟨(some 59), (some (57, false)), (.rd (.ld false 1 (.t 58)))⟩, ⟨(some 60), (some (57, false)), (.ac (.callf 209 [(.t 59), (.k (.int .i64 0)), (.k (.int .i64 4095))]))⟩, ⟨(some 61), (some (57, false)), (.q (.un .not (.t 60)))⟩, ⟨(some 62), none, (.q (.pick (.t 57) (.k (.bool true)) (.t 61)))⟩, ⟨(some 63), none, (.q (.mov (.t 62)))⟩, ⟨(some 64), (some (63, false)), (.q (.fld 3 3 (.t 1)))⟩, ⟨(some 65), (some (63, false)), (.rd (.ld false 1 (.t 64)))⟩, ⟨(some 66), (some (63, false)), (.ac (.callf 209 [(.t 65), (.k (.int .i64 0)), (.k (.int .i64 4095))]))⟩, ⟨(some 67), (some (63, false)), (.q (.un .not (.t 66)))⟩, ⟨(some 68), none, (.q (.pick (.t 63) (.k (.bool true)) (.t 67)))⟩]
def o170n10 : List RI := [⟨(some 69), none, (.q (.bld (.agg [1, 1, 1, 1, 1, 1, 1, 4, 1] [(.sc (.int .i64 0)), (.sc (.int .i64 0)), (.sc (.int .i64 0)), (.sc (.int .i64 0)), (.sc (.int .i64 0)), (.sc (.int .i64 0)), (.sc (.int .i64 0)), (.arr 1 (List.replicate 4 (.sc (.int .i64 0)))), (.sc (.int .i64 0))]) []))⟩, ⟨none, none, (.ac (.st 12 (.t 2) (.t 69)))⟩, ⟨(some 3), none, (.q (.mov (.k (.bool false))))⟩]
noncomputable def b170n10 (K : KTC) (k : KS) (a2 a1 : AV) (c : KN) (p : KV) : Kr :=
  (kQ Tryz.prog [] (.bld (.agg [1, 1, 1, 1, 1, 1, 1, 4, 1] [(.sc (.int .i64 0)), (.sc (.int .i64 0)), (.sc (.int .i64 0)), (.sc (.int .i64 0)), (.sc (.int .i64 0)), (.sc (.int .i64 0)), (.sc (.int .i64 0)), (.arr 1 (List.replicate 4 (.sc (.int .i64 0)))), (.sc (.int .i64 0))]) [])).bind fun v0 =>
  pCall (kA (fun _ _ _ => none) [(2, a2), (69, v0)] k (.st 12 (.t 2) (.t 69))) (fun v1 k1 =>
  c [(1, a1), (2, a2), (3, (.sc (.bool false)))] k1) (p)
theorem e170n10 (K : KTC) (k : KS) (a2 a1 : AV) (c : KN) (p : KV) : b170n10 K k a2 a1 c p = wReg Tryz.prog K [1, 2, 3] o170n10 [(2, a2), (1, a1)] k c p := by unfold b170n10; kernel_rfl
noncomputable def s170n10 (K : KTC) (e : Env) (k : KS) (c : KN) (p : KV) : Kr := gt e 2 fun a2 => gt e 1 fun a1 => b170n10 K k a2 a1 c p
theorem p170n10 (K : KTC) (K' : KT) (hK : CSound K K') : FitsC Tryz.prog K' (.reg (s170n10 K)) (.reg o170n10 [1, 2, 3]) := fun e k c p y h => by
  obtain ⟨a2, h2, h⟩ := gt_some h
  obtain ⟨a1, h1, h⟩ := gt_some h
  exact wreg_fit hK (by decide +kernel) (keep_cons h2 (keep_cons h1 (keep_nil))) (e170n10 K k a2 a1 c p) h
def o170n11 : List RI := [⟨(some 70), none, (.rd (.ld true 12 (.t 1)))⟩, ⟨none, none, (.ac (.st 12 (.t 2) (.t 70)))⟩, ⟨(some 3), none, (.q (.mov (.k (.bool true))))⟩]
noncomputable def b170n11 (K : KTC) (k : KS) (a1 a2 : AV) (c : KN) (p : KV) : Kr :=
  xLd k.t true 12 a1 fun v0 =>
  pCall (kA (fun _ _ _ => none) [(2, a2), (70, v0)] k (.st 12 (.t 2) (.t 70))) (fun v1 k1 =>
  c [(1, a1), (2, a2), (3, (.sc (.bool true)))] k1) (p)
theorem e170n11 (K : KTC) (k : KS) (a1 a2 : AV) (c : KN) (p : KV) : b170n11 K k a1 a2 c p = wReg Tryz.prog K [1, 2, 3] o170n11 [(1, a1), (2, a2)] k c p := by unfold b170n11; simp only [xLd_eq]; kernel_rfl
noncomputable def s170n11 (K : KTC) (e : Env) (k : KS) (c : KN) (p : KV) : Kr := gt e 1 fun a1 => gt e 2 fun a2 => b170n11 K k a1 a2 c p
theorem p170n11 (K : KTC) (K' : KT) (hK : CSound K K') : FitsC Tryz.prog K' (.reg (s170n11 K)) (.reg o170n11 [1, 2, 3]) := fun e k c p y h => by
  obtain ⟨a1, h1, h⟩ := gt_some h
  obtain ⟨a2, h2, h⟩ := gt_some h
  exact wreg_fit hK (by decide +kernel) (keep_cons h1 (keep_cons h2 (keep_nil))) (e170n11 K k a1 a2 c p) h
def r170 : RFn := ⟨1, .seq (.reg o170n0 [1, 2]) (.seq (.seq (.reg o170n1 [1, 2, 11]) (.cond (.t 11) (.seq (.reg o170n2 [1, 2, 3]) (.ret)) (.skip))) (.seq (.reg o170n3 [1, 2]) (.seq (.reg o170n4 [1, 2]) (.seq (.seq (.reg o170n5 [1, 2, 32]) (.cond (.t 32) (.seq (.reg o170n6 [1, 2]) (.seq (.reg o170n7 [1, 2]) (.seq (.reg o170n8 [1, 2, 3]) (.ret)))) (.skip))) (.seq (.seq (.reg o170n9 [1, 2, 68]) (.cond (.t 68) (.seq (.reg o170n10 [1, 2, 3]) (.ret)) (.skip))) (.seq (.reg o170n11 [1, 2, 3]) (.ret))))))), [.cell 2 true 12, .tmp 3], [1, 2]⟩
noncomputable def q170 (K : KTC) : FK := .seq (.reg (s170n0 K)) (.seq (.seq (.reg fun e k c p => wReg Tryz.prog K [1, 2, 11] o170n1 e k c p) (.cond (.t 11) (.seq (.reg (s170n2 K)) (.ret)) (.skip))) (.seq (.reg (s170n3 K)) (.seq (.reg (s170n4 K)) (.seq (.seq (.reg (s170n5 K)) (.cond (.t 32) (.seq (.reg (s170n6 K)) (.seq (.reg (s170n7 K)) (.seq (.reg (s170n8 K)) (.ret)))) (.skip))) (.seq (.seq (.reg fun e k c p => wReg Tryz.prog K [1, 2, 68] o170n9 e k c p) (.cond (.t 68) (.seq (.reg (s170n10 K)) (.ret)) (.skip))) (.seq (.reg (s170n11 K)) (.ret)))))))
theorem ok170 (K : KTC) (K' : KT) (hK : CSound K K') : FitsC Tryz.prog K' (q170 K) r170.code := hs (p170n0 K _ hK) (hs (hs (wslow_reg hK) (hc (hs (p170n2 K _ hK) (hr)) (hk))) (hs (p170n3 K _ hK) (hs (p170n4 K _ hK) (hs (hs (p170n5 K _ hK) (hc (hs (p170n6 K _ hK) (hs (p170n7 K _ hK) (hs (p170n8 K _ hK) (hr)))) (hk))) (hs (hs (wslow_reg hK) (hc (hs (p170n10 K _ hK) (hr)) (hk))) (hs (p170n11 K _ hK) (hr)))))))
noncomputable def g170 : HFn Tryz.prog := ⟨r170, q170, ok170⟩
theorem c170 : chkF Tryz.prog Tryz.f170 r170 = true := by decide +kernel

/-- (*doubletake/step.frame).struck -/
def r171 : RFn := ⟨2,
  .seq (
  .reg [⟨(some 3), none, (.al (.box (.t 1)))⟩,
    ⟨(some 4), none, (.q (.mov (.k (.int .i64 0))))⟩] [0, 3]) (
  .seq (
  .seq (
  .reg [⟨(some 7), none, (.q (.mov (.t 0)))⟩,
    ⟨(some 8), none, (.q (.nchk (.t 7)))⟩,
    ⟨(some 9), none, (.q (.fld 1 10 (.t 8)))⟩,
    ⟨(some 10), none, (.q (.fld 2 2 (.t 9)))⟩,
    ⟨(some 11), none, (.rd (.ld true 192 (.t 10)))⟩,
    ⟨(some 12), none, (.q (.mov (.k (.int .i64 0))))⟩] [3, 11, 12]) (
  .block 0 (
   .loop [3, 11, 12] (
    .free [6] (
    .seq (
    .reg [⟨(some 13), none, (.q (.bin .lss 3 (.t 12) (.k (.int .i64 16))))⟩] [3, 6, 11, 12, 13]) (
    .seq (
    .cond (.t 13) (
     .skip) (
     .exit 0)) (
    .seq (
    .block 1 (
     .seq (
     .reg [⟨(some 14), none, (.q (.mov (.t 12)))⟩,
       ⟨(some 15), none, (.q (.ixv 16 12 true (.t 11) (.t 12)))⟩,
       ⟨(some 6), none, (.al (.alloc (.agg [1, 1, 1, 1, 1, 1, 1, 4, 1] [(.sc (.int .i64 0)), (.sc (.int .i64 0)), (.sc (.int .i64 0)), (.sc (.int .i64 0)), (.sc (.int .i64 0)), (.sc (.int .i64 0)), (.sc (.int .i64 0)), (.arr 1 (List.replicate 4 (.sc (.int .i64 0)))), (.sc (.int .i64 0))])))⟩,
       ⟨(some 5), none, (.q (.mov (.t 14)))⟩,
       ⟨none, none, (.ac (.st 12 (.t 6) (.t 15)))⟩] [3, 5, 6, 11, 12]) (
     .seq (
     .reg [⟨(some 16), none, (.q (.fld 0 0 (.t 6)))⟩,
       ⟨(some 17), none, (.rd (.ld false 1 (.t 16)))⟩,
       ⟨(some 18), none, (.q (.bin .eql 3 (.t 17) (.k (.int .i64 1))))⟩,
       ⟨(some 19), none, (.q (.mov (.t 18)))⟩,
       ⟨(some 20), (some (19, true)), (.rd (.ld true 12 (.t 6)))⟩,
       ⟨(some 21), (some (19, true)), (.rd (.ld true 12 (.t 3)))⟩,
       ⟨(some 22), (some (19, true)), (.ac (.callf 210 [(.t 20), (.t 21)]))⟩,
       ⟨(some 23), none, (.q (.pick (.t 19) (.t 22) (.k (.bool false))))⟩] [3, 5, 6, 11, 12, 23]) (
     .cond (.t 23) (
      .seq (
      .reg [⟨(some 24), none, (.q (.mov (.t 5)))⟩,
        ⟨(some 4), none, (.q (.mov (.t 24)))⟩] [3, 4, 6]) (
      .ret)) (
      .skip))))) (
    .reg [⟨(some 25), none, (.q (.bin .add 3 (.t 12) (.k (.int .i64 1))))⟩,
      ⟨(some 12), none, (.q (.mov (.t 25)))⟩] [3, 6, 11, 12])))))))) (
  .seq (
  .reg [⟨(some 4), none, (.q (.mov (.k (.int .i64 (-1)))))⟩] [3, 4, 6]) (
  .ret))),
  [.tmp 4], [3, 6]⟩
noncomputable def g171 : HFn Tryz.prog := ⟨r171, fun K => wslow Tryz.prog K r171.code, fun _ _ hK => wslow_fits hK _ (by decide +kernel)⟩
theorem c171 : chkF Tryz.prog Tryz.f171 r171 = true := by decide +kernel

/-- slices.EqualFunc[[][]doubletake/api.Cell,[][]doubletake/api.Cell,[]doubletake/api.Cell,[]doubletake/api.Cell] -/
def r172 : RFn := ⟨3,
  .seq (
  .reg [⟨(some 6), none, (.q (.mov (.k (.bool false))))⟩] [0, 1, 2]) (
  .seq (
  .seq (
  .reg [⟨(some 10), none, (.q (.mov (.t 0)))⟩,
    ⟨(some 11), none, (.q (.len false (.t 10)))⟩,
    ⟨(some 12), none, (.q (.mov (.t 1)))⟩,
    ⟨(some 13), none, (.q (.len false (.t 12)))⟩,
    ⟨(some 14), none, (.q (.bin .neq 3 (.t 11) (.t 13)))⟩] [0, 1, 2, 14]) (
  .cond (.t 14) (
   .seq (
   .reg [⟨(some 6), none, (.q (.mov (.k (.bool false))))⟩] [6]) (
   .ret)) (
   .skip))) (
  .seq (
  .seq (
  .reg [⟨(some 15), none, (.q (.mov (.t 0)))⟩,
    ⟨(some 16), none, (.q (.len false (.t 15)))⟩,
    ⟨(some 17), none, (.q (.mov (.k (.int .i64 0))))⟩] [1, 2, 15, 16, 17]) (
  .block 0 (
   .loop [1, 2, 15, 16, 17] (
    .seq (
    .reg [⟨(some 18), none, (.q (.bin .lss 3 (.t 17) (.t 16)))⟩] [1, 2, 15, 16, 17, 18]) (
    .seq (
    .cond (.t 18) (
     .skip) (
     .exit 0)) (
    .seq (
    .block 1 (
     .seq (
     .reg [⟨(some 19), none, (.q (.mov (.t 17)))⟩,
       ⟨(some 20), none, (.q (.ixs 1 (.t 15) (.t 17)))⟩,
       ⟨(some 21), none, (.rd (.ld false 1 (.t 20)))⟩,
       ⟨(some 7), none, (.q (.mov (.t 19)))⟩,
       ⟨(some 8), none, (.q (.mov (.t 21)))⟩] [1, 2, 7, 8, 15, 16, 17]) (
     .seq (
     .reg [⟨(some 22), none, (.q (.mov (.t 1)))⟩,
       ⟨(some 23), none, (.q (.mov (.t 7)))⟩,
       ⟨(some 24), none, (.q (.ixs 1 (.t 22) (.t 23)))⟩,
       ⟨(some 25), none, (.rd (.ld false 1 (.t 24)))⟩,
       ⟨(some 9), none, (.q (.mov (.t 25)))⟩] [1, 2, 8, 9, 15, 16, 17]) (
     .seq (
     .reg [⟨(some 26), none, (.q (.mov (.t 2)))⟩,
       ⟨(some 27), none, (.q (.mov (.t 8)))⟩,
       ⟨(some 28), none, (.q (.mov (.t 9)))⟩,
       ⟨(some 29), none, (.ac (.callv (.t 26) [(.t 27), (.t 28)]))⟩,
       ⟨(some 30), none, (.q (.un .not (.t 29)))⟩] [1, 2, 15, 16, 17, 30]) (
     .cond (.t 30) (
      .seq (
      .reg [⟨(some 6), none, (.q (.mov (.k (.bool false))))⟩] [6]) (
      .ret)) (
      .skip)))))) (
    .reg [⟨(some 31), none, (.q (.bin .add 3 (.t 17) (.k (.int .i64 1))))⟩,
      ⟨(some 17), none, (.q (.mov (.t 31)))⟩] [1, 2, 15, 16, 17]))))))) (
  .seq (
  .reg [⟨(some 6), none, (.q (.mov (.k (.bool true))))⟩] [6]) (
  .ret)))),
  [.tmp 6], []⟩
noncomputable def g172 : HFn Tryz.prog := ⟨r172, fun K => wslow Tryz.prog K r172.code, fun _ _ hK => wslow_fits hK _ (by decide +kernel)⟩
theorem c172 : chkF Tryz.prog Tryz.f172 r172 = true := by decide +kernel

/-- doubletake/packet.Same$1 -/
def r173 : RFn := ⟨2,
  .seq (
  .reg [⟨(some 4), none, (.q (.mov (.k (.bool false))))⟩] [0, 1]) (
  .seq (
  .reg [⟨(some 5), none, (.q (.mov (.t 0)))⟩,
    ⟨(some 6), none, (.q (.mov (.t 1)))⟩,
    ⟨(some 7), none, (.ac (.callf 174 [(.t 5), (.t 6)]))⟩,
    ⟨(some 4), none, (.q (.mov (.t 7)))⟩] [4]) (
  .ret)),
  [.tmp 4], []⟩
noncomputable def g173 : HFn Tryz.prog := ⟨r173, fun K => wslow Tryz.prog K r173.code, fun _ _ hK => wslow_fits hK _ (by decide +kernel)⟩
theorem c173 : chkF Tryz.prog Tryz.f173 r173 = true := by decide +kernel

/-- slices.Equal[[]doubletake/api.Cell,doubletake/api.Cell] -/
def r174 : RFn := ⟨2,
  .seq (
  .reg [⟨(some 4), none, (.q (.mov (.k (.bool false))))⟩] [0, 1]) (
  .seq (
  .seq (
  .reg [⟨(some 6), none, (.q (.mov (.t 0)))⟩,
    ⟨(some 7), none, (.q (.len false (.t 6)))⟩,
    ⟨(some 8), none, (.q (.mov (.t 1)))⟩,
    ⟨(some 9), none, (.q (.len false (.t 8)))⟩,
    ⟨(some 10), none, (.q (.bin .neq 3 (.t 7) (.t 9)))⟩] [0, 1, 10]) (
  .cond (.t 10) (
   .seq (
   .reg [⟨(some 4), none, (.q (.mov (.k (.bool false))))⟩] [4]) (
   .ret)) (
   .skip))) (
  .seq (
  .seq (
  .reg [⟨(some 11), none, (.q (.mov (.t 0)))⟩,
    ⟨(some 12), none, (.q (.len false (.t 11)))⟩,
    ⟨(some 13), none, (.q (.mov (.k (.int .i64 0))))⟩] [0, 1, 12, 13]) (
  .block 0 (
   .loop [0, 1, 12, 13] (
    .seq (
    .reg [⟨(some 14), none, (.q (.bin .lss 3 (.t 13) (.t 12)))⟩] [0, 1, 12, 13, 14]) (
    .seq (
    .cond (.t 14) (
     .skip) (
     .exit 0)) (
    .seq (
    .block 1 (
     .seq (
     .reg [⟨(some 15), none, (.q (.mov (.t 13)))⟩,
       ⟨(some 5), none, (.q (.mov (.t 15)))⟩] [0, 1, 5, 12, 13]) (
     .seq (
     .draw [(0, ⟨(some 16), none, (.q (.mov (.t 0)))⟩, 0),
       (1, ⟨(some 17), none, (.q (.mov (.t 5)))⟩, 0),
       (2, ⟨(some 18), none, (.q (.ixs 4 (.t 16) (.t 17)))⟩, 0),
       (3, ⟨(some 19), none, (.rd (.ld true 4 (.t 18)))⟩, 0),
       (4, ⟨(some 20), none, (.q (.mov (.t 1)))⟩, 0),
       (5, ⟨(some 21), none, (.q (.mov (.t 5)))⟩, 0),
       (6, ⟨(some 22), none, (.q (.ixs 4 (.t 20) (.t 21)))⟩, 0),
       (7, ⟨(some 23), none, (.rd (.ld true 4 (.t 22)))⟩, 0),
       (8, ⟨(some 24), none, (.q (.bin .neq 63 (.t 19) (.t 23)))⟩, 0)] [0, 1, 12, 13, 24]) (
     .cond (.t 24) (
      .seq (
      .reg [⟨(some 4), none, (.q (.mov (.k (.bool false))))⟩] [4]) (
      .ret)) (
      .skip))))) (
    .reg [⟨(some 25), none, (.q (.bin .add 3 (.t 13) (.k (.int .i64 1))))⟩,
      ⟨(some 13), none, (.q (.mov (.t 25)))⟩] [0, 1, 12, 13]))))))) (
  .seq (
  .reg [⟨(some 4), none, (.q (.mov (.k (.bool true))))⟩] [4]) (
  .ret)))),
  [.tmp 4], []⟩
noncomputable def g174 : HFn Tryz.prog := ⟨r174, fun K => wslow Tryz.prog K r174.code, fun _ _ hK => wslow_fits hK _ (by decide +kernel)⟩
theorem c174 : chkF Tryz.prog Tryz.f174 r174 = true := by decide +kernel

/-- slices.Equal[[]doubletake/api.Input,doubletake/api.Input] -/
def r175 : RFn := ⟨2,
  .seq (
  .reg [⟨(some 4), none, (.q (.mov (.k (.bool false))))⟩] [0, 1]) (
  .seq (
  .seq (
  .reg [⟨(some 6), none, (.q (.mov (.t 0)))⟩,
    ⟨(some 7), none, (.q (.len false (.t 6)))⟩,
    ⟨(some 8), none, (.q (.mov (.t 1)))⟩,
    ⟨(some 9), none, (.q (.len false (.t 8)))⟩,
    ⟨(some 10), none, (.q (.bin .neq 3 (.t 7) (.t 9)))⟩] [0, 1, 10]) (
  .cond (.t 10) (
   .seq (
   .reg [⟨(some 4), none, (.q (.mov (.k (.bool false))))⟩] [4]) (
   .ret)) (
   .skip))) (
  .seq (
  .seq (
  .reg [⟨(some 11), none, (.q (.mov (.t 0)))⟩,
    ⟨(some 12), none, (.q (.len false (.t 11)))⟩,
    ⟨(some 13), none, (.q (.mov (.k (.int .i64 0))))⟩] [0, 1, 12, 13]) (
  .block 0 (
   .loop [0, 1, 12, 13] (
    .seq (
    .reg [⟨(some 14), none, (.q (.bin .lss 3 (.t 13) (.t 12)))⟩] [0, 1, 12, 13, 14]) (
    .seq (
    .cond (.t 14) (
     .skip) (
     .exit 0)) (
    .seq (
    .block 1 (
     .seq (
     .reg [⟨(some 15), none, (.q (.mov (.t 13)))⟩,
       ⟨(some 5), none, (.q (.mov (.t 15)))⟩] [0, 1, 5, 12, 13]) (
     .seq (
     .draw [(0, ⟨(some 16), none, (.q (.mov (.t 0)))⟩, 0),
       (1, ⟨(some 17), none, (.q (.mov (.t 5)))⟩, 0),
       (2, ⟨(some 18), none, (.q (.ixs 3 (.t 16) (.t 17)))⟩, 0),
       (3, ⟨(some 19), none, (.rd (.ld true 3 (.t 18)))⟩, 0),
       (4, ⟨(some 20), none, (.q (.mov (.t 1)))⟩, 0),
       (5, ⟨(some 21), none, (.q (.mov (.t 5)))⟩, 0),
       (6, ⟨(some 22), none, (.q (.ixs 3 (.t 20) (.t 21)))⟩, 0),
       (7, ⟨(some 23), none, (.rd (.ld true 3 (.t 22)))⟩, 0),
       (8, ⟨(some 24), none, (.q (.bin .neq 34 (.t 19) (.t 23)))⟩, 0)] [0, 1, 12, 13, 24]) (
     .cond (.t 24) (
      .seq (
      .reg [⟨(some 4), none, (.q (.mov (.k (.bool false))))⟩] [4]) (
      .ret)) (
      .skip))))) (
    .reg [⟨(some 25), none, (.q (.bin .add 3 (.t 13) (.k (.int .i64 1))))⟩,
      ⟨(some 13), none, (.q (.mov (.t 25)))⟩] [0, 1, 12, 13]))))))) (
  .seq (
  .reg [⟨(some 4), none, (.q (.mov (.k (.bool true))))⟩] [4]) (
  .ret)))),
  [.tmp 4], []⟩
noncomputable def g175 : HFn Tryz.prog := ⟨r175, fun K => wslow Tryz.prog K r175.code, fun _ _ hK => wslow_fits hK _ (by decide +kernel)⟩
theorem c175 : chkF Tryz.prog Tryz.f175 r175 = true := by decide +kernel

/-- slices.IndexFunc[[]doubletake/api.Input,doubletake/api.Input] -/
def r176 : RFn := ⟨2,
  .seq (
  .reg [⟨(some 4), none, (.q (.mov (.k (.int .i64 0))))⟩] [0, 1]) (
  .seq (
  .seq (
  .reg [⟨(some 6), none, (.q (.mov (.t 0)))⟩,
    ⟨(some 7), none, (.q (.len false (.t 6)))⟩,
    ⟨(some 8), none, (.q (.mov (.k (.int .i64 0))))⟩] [0, 1, 7, 8]) (
  .block 0 (
   .loop [0, 1, 7, 8] (
    .seq (
    .reg [⟨(some 9), none, (.q (.bin .lss 3 (.t 8) (.t 7)))⟩] [0, 1, 7, 8, 9]) (
    .seq (
    .cond (.t 9) (
     .skip) (
     .exit 0)) (
    .seq (
    .block 1 (
     .seq (
     .reg [⟨(some 10), none, (.q (.mov (.t 8)))⟩,
       ⟨(some 5), none, (.q (.mov (.t 10)))⟩] [0, 1, 5, 7, 8]) (
     .seq (
     .reg [⟨(some 11), none, (.q (.mov (.t 1)))⟩,
       ⟨(some 12), none, (.q (.mov (.t 0)))⟩,
       ⟨(some 13), none, (.q (.mov (.t 5)))⟩,
       ⟨(some 14), none, (.q (.ixs 3 (.t 12) (.t 13)))⟩,
       ⟨(some 15), none, (.rd (.ld true 3 (.t 14)))⟩,
       ⟨(some 16), none, (.ac (.callv (.t 11) [(.t 15)]))⟩] [0, 1, 5, 7, 8, 16]) (
     .cond (.t 16) (
      .seq (
      .reg [⟨(some 17), none, (.q (.mov (.t 5)))⟩,
        ⟨(some 4), none, (.q (.mov (.t 17)))⟩] [4]) (
      .ret)) (
      .skip))))) (
    .reg [⟨(some 18), none, (.q (.bin .add 3 (.t 8) (.k (.int .i64 1))))⟩,
      ⟨(some 8), none, (.q (.mov (.t 18)))⟩] [0, 1, 7, 8]))))))) (
  .seq (
  .reg [⟨(some 4), none, (.q (.mov (.k (.int .i64 (-1)))))⟩] [4]) (
  .ret))),
  [.tmp 4], []⟩
noncomputable def g176 : HFn Tryz.prog := ⟨r176, fun K => wslow Tryz.prog K r176.code, fun _ _ hK => wslow_fits hK _ (by decide +kernel)⟩
theorem c176 : chkF Tryz.prog Tryz.f176 r176 = true := by decide +kernel

/-- slices.ContainsFunc[[]doubletake/api.Cell,doubletake/api.Cell] -/
def r177 : RFn := ⟨2,
  .seq (
  .reg [⟨(some 4), none, (.q (.mov (.k (.bool false))))⟩] [0, 1]) (
  .seq (
  .reg [⟨(some 5), none, (.q (.mov (.t 0)))⟩,
    ⟨(some 6), none, (.q (.mov (.t 1)))⟩,
    ⟨(some 7), none, (.ac (.callf 211 [(.t 5), (.t 6)]))⟩,
    ⟨(some 8), none, (.q (.bin .geq 3 (.t 7) (.k (.int .i64 0))))⟩,
    ⟨(some 4), none, (.q (.mov (.t 8)))⟩] [4]) (
  .ret)),
  [.tmp 4], []⟩
noncomputable def g177 : HFn Tryz.prog := ⟨r177, fun K => wslow Tryz.prog K r177.code, fun _ _ hK => wslow_fits hK _ (by decide +kernel)⟩
theorem c177 : chkF Tryz.prog Tryz.f177 r177 = true := by decide +kernel

/-- doubletake/packet.rightRows$1 -/
def r178 : RFn := ⟨1,
  .seq (
  .reg [⟨(some 1), none, (.al (.box (.t 0)))⟩,
    ⟨(some 2), none, (.q (.mov (.k (.bool false))))⟩] [1]) (
  .seq (
  .reg [⟨(some 3), none, (.rd (.ld true 4 (.t 1)))⟩,
    ⟨(some 4), none, (.ac (.callf 179 [(.t 3)]))⟩,
    ⟨(some 5), none, (.q (.un .not (.t 4)))⟩,
    ⟨(some 2), none, (.q (.mov (.t 5)))⟩] [1, 2]) (
  .ret)),
  [.tmp 2], [1]⟩
noncomputable def g178 : HFn Tryz.prog := ⟨r178, fun K => wslow Tryz.prog K r178.code, fun _ _ hK => wslow_fits hK _ (by decide +kernel)⟩
theorem c178 : chkF Tryz.prog Tryz.f178 r178 = true := by decide +kernel

/-- doubletake/packet.rightCell -/
def r179 : RFn := ⟨1,
  .seq (
  .reg [⟨(some 1), none, (.al (.box (.t 0)))⟩,
    ⟨(some 2), none, (.q (.mov (.k (.bool false))))⟩] [1]) (
  .seq (
  .reg [⟨(some 3), none, (.q (.fld 1 1 (.t 1)))⟩,
    ⟨(some 4), none, (.rd (.ld true 3 (.t 3)))⟩,
    ⟨(some 5), none, (.ac (.callf 128 [(.t 4)]))⟩,
    ⟨(some 6), none, (.q (.mov (.t 5)))⟩,
    ⟨(some 7), (some (6, true)), (.q (.fld 0 0 (.t 1)))⟩,
    ⟨(some 8), (some (6, true)), (.rd (.ld false 1 (.t 7)))⟩,
    ⟨(some 9), (some (6, true)), (.q (.mov (.t 8)))⟩,
    ⟨(some 10), (some (9, false)), (.q (.fld 1 1 (.t 1)))⟩,
    ⟨(some 11), (some (9, false)), (.rd (.ld true 3 (.t 10)))⟩,
    ⟨(some 12), (some (9, false)), (.q (.bld (.agg [1, 1, 1] [(.sc (.int .i64 0)), (.sc (.int .i64 0)), (.sc (.int .i64 0))]) []))⟩,
    ⟨(some 13), (some (9, false)), (.q (.bin .eql 34 (.t 11) (.t 12)))⟩,
    ⟨(some 14), (some (6, true)), (.q (.pick (.t 9) (.k (.bool true)) (.t 13)))⟩,
    ⟨(some 15), none, (.q (.pick (.t 6) (.t 14) (.k (.bool false))))⟩,
    ⟨(some 2), none, (.q (.mov (.t 15)))⟩] [1, 2]) (
  .ret)),
  [.tmp 2], [1]⟩
noncomputable def g179 : HFn Tryz.prog := ⟨r179, fun K => wslow Tryz.prog K r179.code, fun _ _ hK => wslow_fits hK _ (by decide +kernel)⟩
theorem c179 : chkF Tryz.prog Tryz.f179 r179 = true := by decide +kernel

/-- doubletake/packet.flag -/
def r180 : RFn := ⟨2,
  .seq (
  .reg [⟨(some 4), none, (.q (.mov (.t 1)))⟩] [0, 4]) (
  .cond (.t 4) (
   .reg [⟨(some 5), none, (.q (.mov (.t 0)))⟩,
     ⟨(some 6), none, (.ac (.callf 109 [(.t 5), (.k (.int .u64 1)), (.k (.int .i64 1))]))⟩] []) (
   .reg [⟨(some 7), none, (.q (.mov (.t 0)))⟩,
     ⟨(some 8), none, (.ac (.callf 109 [(.t 7), (.k (.int .u64 0)), (.k (.int .i64 1))]))⟩] [])),
  [], []⟩
noncomputable def g180 : HFn Tryz.prog := ⟨r180, fun K => wslow Tryz.prog K r180.code, fun _ _ hK => wslow_fits hK _ (by decide +kernel)⟩
theorem c180 : chkF Tryz.prog Tryz.f180 r180 = true := by decide +kernel

/-- doubletake/packet.layInput -/
def r181 : RFn := ⟨2,
  .seq (
  .reg [⟨(some 3), none, (.al (.box (.t 1)))⟩] [0, 3]) (
  .seq (
  .reg [⟨(some 4), none, (.q (.mov (.t 0)))⟩,
    ⟨(some 5), none, (.q (.fld 0 0 (.t 3)))⟩,
    ⟨(some 6), none, (.rd (.ld false 1 (.t 5)))⟩,
    ⟨(some 7), none, (.q (.conv 3 39 (.t 6)))⟩,
    ⟨(some 8), none, (.ac (.callf 109 [(.t 4), (.t 7), (.k (.int .i64 8))]))⟩] [0, 3]) (
  .seq (
  .reg [⟨(some 9), none, (.q (.mov (.t 0)))⟩,
    ⟨(some 10), none, (.q (.fld 1 1 (.t 3)))⟩,
    ⟨(some 11), none, (.rd (.ld false 1 (.t 10)))⟩,
    ⟨(some 12), none, (.ac (.callf 163 [(.t 9), (.t 11), (.k (.int .i64 8))]))⟩] [0, 3]) (
  .reg [⟨(some 13), none, (.q (.mov (.t 0)))⟩,
    ⟨(some 14), none, (.q (.fld 2 2 (.t 3)))⟩,
    ⟨(some 15), none, (.rd (.ld false 1 (.t 14)))⟩,
    ⟨(some 16), none, (.ac (.callf 163 [(.t 13), (.t 15), (.k (.int .i64 8))]))⟩] [3]))),
  [], [3]⟩
noncomputable def g181 : HFn Tryz.prog := ⟨r181, fun K => wslow Tryz.prog K r181.code, fun _ _ hK => wslow_fits hK _ (by decide +kernel)⟩
theorem c181 : chkF Tryz.prog Tryz.f181 r181 = true := by decide +kernel

/-- doubletake/packet.layRows -/
def r182 : RFn := ⟨2,
  .seq (
  .reg [⟨(some 3), none, (.al (.box (.t 1)))⟩] [0, 3]) (
  .seq (
  .reg [⟨(some 6), none, (.q (.mov (.t 0)))⟩,
    ⟨(some 7), none, (.q (.fld 7 7 (.t 3)))⟩,
    ⟨(some 8), none, (.rd (.ld false 1 (.t 7)))⟩,
    ⟨(some 9), none, (.q (.conv 3 39 (.t 8)))⟩,
    ⟨(some 10), none, (.ac (.callf 109 [(.t 6), (.t 9), (.k (.int .i64 10))]))⟩] [0, 3]) (
  .seq (
  .reg [⟨(some 11), none, (.q (.mov (.t 0)))⟩,
    ⟨(some 12), none, (.q (.fld 9 9 (.t 3)))⟩,
    ⟨(some 13), none, (.rd (.ld false 1 (.t 12)))⟩,
    ⟨(some 14), none, (.q (.conv 3 39 (.t 13)))⟩,
    ⟨(some 15), none, (.ac (.callf 109 [(.t 11), (.t 14), (.k (.int .i64 4))]))⟩] [0, 3]) (
  .seq (
  .reg [⟨(some 16), none, (.q (.mov (.t 0)))⟩,
    ⟨(some 17), none, (.q (.fld 10 10 (.t 3)))⟩,
    ⟨(some 18), none, (.rd (.ld false 1 (.t 17)))⟩,
    ⟨(some 19), none, (.q (.len false (.t 18)))⟩,
    ⟨(some 20), none, (.q (.conv 3 39 (.t 19)))⟩,
    ⟨(some 21), none, (.ac (.callf 109 [(.t 16), (.t 20), (.k (.int .i64 4))]))⟩] [0, 3]) (
  .seq (
  .reg [⟨(some 22), none, (.q (.fld 10 10 (.t 3)))⟩,
    ⟨(some 23), none, (.rd (.ld false 1 (.t 22)))⟩,
    ⟨(some 24), none, (.ac (.callf 212 [(.t 23)]))⟩,
    ⟨(some 25), none, (.q (.len false (.t 24)))⟩,
    ⟨(some 26), none, (.q (.mov (.k (.int .i64 0))))⟩] [0, 3, 24, 25, 26]) (
  .block 0 (
   .loop [0, 3, 24, 25, 26] (
    .free [5] (
    .seq (
    .reg [⟨(some 27), none, (.q (.bin .lss 3 (.t 26) (.t 25)))⟩] [0, 3, 5, 24, 25, 26, 27]) (
    .seq (
    .cond (.t 27) (
     .skip) (
     .exit 0)) (
    .seq (
    .block 1 (
     .seq (
     .reg [⟨(some 28), none, (.q (.ixs 4 (.t 24) (.t 26)))⟩,
       ⟨(some 29), none, (.rd (.ld true 4 (.t 28)))⟩,
       ⟨(some 5), none, (.al (.alloc (.agg [1, 3] [(.sc (.bool false)), (.agg [1, 1, 1] [(.sc (.int .i64 0)), (.sc (.int .i64 0)), (.sc (.int .i64 0))])])))⟩,
       ⟨none, none, (.ac (.st 4 (.t 5) (.t 29)))⟩] [0, 3, 5, 24, 25, 26]) (
     .seq (
     .reg [⟨(some 30), none, (.q (.mov (.t 0)))⟩,
       ⟨(some 31), none, (.q (.fld 0 0 (.t 5)))⟩,
       ⟨(some 32), none, (.rd (.ld false 1 (.t 31)))⟩,
       ⟨(some 33), none, (.ac (.callf 180 [(.t 30), (.t 32)]))⟩] [0, 3, 5, 24, 25, 26]) (
     .seq (
     .reg [⟨(some 34), none, (.q (.fld 0 0 (.t 5)))⟩,
       ⟨(some 35), none, (.rd (.ld false 1 (.t 34)))⟩] [0, 3, 5, 24, 25, 26, 35]) (
     .cond (.t 35) (
      .reg [⟨(some 36), none, (.q (.mov (.t 0)))⟩,
        ⟨(some 37), none, (.q (.fld 1 1 (.t 5)))⟩,
        ⟨(some 38), none, (.rd (.ld true 3 (.t 37)))⟩,
        ⟨(some 39), none, (.ac (.callf 181 [(.t 36), (.t 38)]))⟩] [0, 3, 5, 24, 25, 26]) (
      .skip)))))) (
    .reg [⟨(some 40), none, (.q (.bin .add 3 (.t 26) (.k (.int .i64 1))))⟩,
      ⟨(some 26), none, (.q (.mov (.t 40)))⟩] [0, 3, 5, 24, 25, 26]))))))))))),
  [], [3, 5]⟩
noncomputable def g182 : HFn Tryz.prog := ⟨r182, fun K => wslow Tryz.prog K r182.code, fun _ _ hK => wslow_fits hK _ (by decide +kernel)⟩
theorem c182 : chkF Tryz.prog Tryz.f182 r182 = true := by decide +kernel

/-- doubletake/seq.Norm -/
def r183 : RFn := ⟨1,
  .seq (
  .reg [⟨(some 2), none, (.q (.mov (.k (.int .i64 0))))⟩] [0]) (
  .seq (
  .reg [⟨(some 3), none, (.q (.mov (.t 0)))⟩,
    ⟨(some 4), none, (.q (.bin .rem 3 (.t 3) (.k (.int .i64 65536))))⟩,
    ⟨(some 5), none, (.q (.bin .add 3 (.t 4) (.k (.int .i64 65536))))⟩,
    ⟨(some 6), none, (.q (.bin .rem 3 (.t 5) (.k (.int .i64 65536))))⟩,
    ⟨(some 2), none, (.q (.mov (.t 6)))⟩] [2]) (
  .ret)),
  [.tmp 2], []⟩
noncomputable def g183 : HFn Tryz.prog := ⟨r183, fun K => wslow Tryz.prog K r183.code, fun _ _ hK => wslow_fits hK _ (by decide +kernel)⟩
theorem c183 : chkF Tryz.prog Tryz.f183 r183 = true := by decide +kernel

/-- doubletake/doubletakeref1.RightBucket -/
def r184 : RFn := ⟨2,
  .seq (
  .reg [⟨(some 4), none, (.q (.mov (.k (.bool false))))⟩] [0, 1]) (
  .seq (
  .reg [⟨(some 5), none, (.q (.mov (.t 0)))⟩,
    ⟨(some 6), none, (.q (.bin .geq 26 (.t 5) (.k (.float .f64 0))))⟩,
    ⟨(some 7), none, (.q (.mov (.t 6)))⟩,
    ⟨(some 8), (some (7, true)), (.q (.mov (.t 0)))⟩,
    ⟨(some 9), (some (7, true)), (.q (.bin .leq 26 (.t 8) (.k (.float .f64 9218868437227405311))))⟩,
    ⟨(some 10), none, (.q (.pick (.t 7) (.t 9) (.k (.bool false))))⟩,
    ⟨(some 11), none, (.q (.mov (.t 10)))⟩,
    ⟨(some 12), (some (11, true)), (.q (.mov (.t 1)))⟩,
    ⟨(some 13), (some (11, true)), (.q (.bin .geq 26 (.t 12) (.k (.float .f64 4607182418800017408))))⟩,
    ⟨(some 14), none, (.q (.pick (.t 11) (.t 13) (.k (.bool false))))⟩,
    ⟨(some 15), none, (.q (.mov (.t 14)))⟩,
    ⟨(some 16), (some (15, true)), (.q (.mov (.t 1)))⟩,
    ⟨(some 17), (some (15, true)), (.q (.bin .leq 26 (.t 16) (.k (.float .f64 4652007308841189376))))⟩,
    ⟨(some 18), none, (.q (.pick (.t 15) (.t 17) (.k (.bool false))))⟩,
    ⟨(some 4), none, (.q (.mov (.t 18)))⟩] [4]) (
  .ret)),
  [.tmp 4], []⟩
noncomputable def g184 : HFn Tryz.prog := ⟨r184, fun K => wslow Tryz.prog K r184.code, fun _ _ hK => wslow_fits hK _ (by decide +kernel)⟩
theorem c184 : chkF Tryz.prog Tryz.f184 r184 = true := by decide +kernel

/-- doubletake/doubletakeref11.RightRule -/
def r185 : RFn := ⟨1,
  .seq (
  .reg [⟨(some 2), none, (.q (.mov (.k (.bool false))))⟩] [0]) (
  .seq (
  .seq (
  .reg [⟨(some 3), none, (.q (.mov (.k (.int .i64 0))))⟩] [0, 3]) (
  .block 0 (
   .loop [0, 3] (
    .seq (
    .seq (
    .reg [⟨(some 4), none, (.q (.mov (.t 3)))⟩,
      ⟨(some 5), none, (.q (.mov (.t 0)))⟩,
      ⟨(some 6), none, (.q (.len false (.t 5)))⟩,
      ⟨(some 7), none, (.q (.bin .lss 3 (.t 4) (.t 6)))⟩] [0, 3, 7]) (
    .cond (.t 7) (
     .skip) (
     .exit 0))) (
    .seq (
    .block 1 (
     .seq (
     .reg [⟨(some 10), none, (.q (.mov (.t 0)))⟩,
       ⟨(some 11), none, (.q (.mov (.t 3)))⟩,
       ⟨(some 12), none, (.q (.ixs 3 (.t 10) (.t 11)))⟩,
       ⟨(some 13), none, (.q (.fld 0 0 (.t 12)))⟩,
       ⟨(some 14), none, (.rd (.ld false 1 (.t 13)))⟩,
       ⟨(some 15), none, (.ac (.callf 139 [(.t 14), (.k (.int .i64 1)), (.k (.int .i64 13))]))⟩,
       ⟨(some 16), none, (.q (.un .not (.t 15)))⟩,
       ⟨(some 17), none, (.q (.mov (.t 16)))⟩,
       ⟨(some 18), (some (17, false)), (.q (.mov (.t 0)))⟩,
       ⟨(some 19), (some (17, false)), (.q (.mov (.t 3)))⟩,
       ⟨(some 20), (some (17, false)), (.q (.ixs 3 (.t 18) (.t 19)))⟩,
       ⟨(some 21), (some (17, false)), (.q (.fld 1 1 (.t 20)))⟩,
       ⟨(some 22), (some (17, false)), (.rd (.ld false 1 (.t 21)))⟩,
       ⟨(some 23), (some (17, false)), (.ac (.callf 139 [(.t 22), (.k (.int .i64 (-1000000))), (.k (.int .i64 1000000))]))⟩,
       ⟨(some 24), (some (17, false)), (.q (.un .not (.t 23)))⟩,
       ⟨(some 25), none, (.q (.pick (.t 17) (.k (.bool true)) (.t 24)))⟩,
       ⟨(some 26), none, (.q (.mov (.t 25)))⟩,
       ⟨(some 27), (some (26, false)), (.q (.mov (.t 0)))⟩,
       ⟨(some 28), (some (26, false)), (.q (.mov (.t 3)))⟩,
       ⟨(some 29), (some (26, false)), (.q (.ixs 3 (.t 27) (.t 28)))⟩,
       ⟨(some 30), (some (26, false)), (.q (.fld 2 2 (.t 29)))⟩,
       ⟨(some 31), (some (26, false)), (.rd (.ld false 1 (.t 30)))⟩,
       ⟨(some 32), (some (26, false)), (.ac (.callf 139 [(.t 31), (.k (.int .i64 (-1000000))), (.k (.int .i64 1000000))]))⟩,
       ⟨(some 33), (some (26, false)), (.q (.un .not (.t 32)))⟩,
       ⟨(some 34), none, (.q (.pick (.t 26) (.k (.bool true)) (.t 33)))⟩] [0, 3, 34]) (
     .cond (.t 34) (
      .seq (
      .reg [⟨(some 2), none, (.q (.mov (.k (.bool false))))⟩] [2]) (
      .ret)) (
      .skip)))) (
    .reg [⟨(some 8), none, (.q (.mov (.t 3)))⟩,
      ⟨(some 9), none, (.q (.bin .add 3 (.t 8) (.k (.int .i64 1))))⟩,
      ⟨(some 3), none, (.q (.mov (.t 9)))⟩] [0, 3])))))) (
  .seq (
  .reg [⟨(some 35), none, (.q (.mov (.t 0)))⟩,
    ⟨(some 36), none, (.q (.len false (.t 35)))⟩,
    ⟨(some 37), none, (.q (.bin .leq 3 (.t 36) (.k (.int .i64 16))))⟩,
    ⟨(some 2), none, (.q (.mov (.t 37)))⟩] [2]) (
  .ret))),
  [.tmp 2], []⟩
noncomputable def g185 : HFn Tryz.prog := ⟨r185, fun K => wslow Tryz.prog K r185.code, fun _ _ hK => wslow_fits hK _ (by decide +kernel)⟩
theorem c185 : chkF Tryz.prog Tryz.f185 r185 = true := by decide +kernel

/-- slices.IndexFunc[[]doubletake/api.Op,doubletake/api.Op] -/
def r194 : RFn := ⟨2,
  .seq (
  .reg [⟨(some 4), none, (.q (.mov (.k (.int .i64 0))))⟩] [0, 1]) (
  .seq (
  .seq (
  .reg [⟨(some 6), none, (.q (.mov (.t 0)))⟩,
    ⟨(some 7), none, (.q (.len false (.t 6)))⟩,
    ⟨(some 8), none, (.q (.mov (.k (.int .i64 0))))⟩] [0, 1, 7, 8]) (
  .block 0 (
   .loop [0, 1, 7, 8] (
    .seq (
    .reg [⟨(some 9), none, (.q (.bin .lss 3 (.t 8) (.t 7)))⟩] [0, 1, 7, 8, 9]) (
    .seq (
    .cond (.t 9) (
     .skip) (
     .exit 0)) (
    .seq (
    .block 1 (
     .seq (
     .reg [⟨(some 10), none, (.q (.mov (.t 8)))⟩,
       ⟨(some 5), none, (.q (.mov (.t 10)))⟩] [0, 1, 5, 7, 8]) (
     .seq (
     .reg [⟨(some 11), none, (.q (.mov (.t 1)))⟩,
       ⟨(some 12), none, (.q (.mov (.t 0)))⟩,
       ⟨(some 13), none, (.q (.mov (.t 5)))⟩,
       ⟨(some 14), none, (.q (.ixs 3 (.t 12) (.t 13)))⟩,
       ⟨(some 15), none, (.rd (.ld true 3 (.t 14)))⟩,
       ⟨(some 16), none, (.ac (.callv (.t 11) [(.t 15)]))⟩] [0, 1, 5, 7, 8, 16]) (
     .cond (.t 16) (
      .seq (
      .reg [⟨(some 17), none, (.q (.mov (.t 5)))⟩,
        ⟨(some 4), none, (.q (.mov (.t 17)))⟩] [4]) (
      .ret)) (
      .skip))))) (
    .reg [⟨(some 18), none, (.q (.bin .add 3 (.t 8) (.k (.int .i64 1))))⟩,
      ⟨(some 8), none, (.q (.mov (.t 18)))⟩] [0, 1, 7, 8]))))))) (
  .seq (
  .reg [⟨(some 4), none, (.q (.mov (.k (.int .i64 (-1)))))⟩] [4]) (
  .ret))),
  [.tmp 4], []⟩
noncomputable def g194 : HFn Tryz.prog := ⟨r194, fun K => wslow Tryz.prog K r194.code, fun _ _ hK => wslow_fits hK _ (by decide +kernel)⟩
theorem c194 : chkF Tryz.prog Tryz.f194 r194 = true := by decide +kernel

/-! doubletake/body.Right -/
def o195n0 : List RI := [⟨(some 1), none, (.al (.box (.t 0)))⟩, ⟨(some 2), none, (.q (.mov (.k (.bool false))))⟩]
noncomputable def b195n0 (K : KTC) (k : KS) (a0 : AV) (c : KN) (p : KV) : Kr :=
  pAl (evAl [(0, a0)] k.nx (.box (.t 0))) k fun v0 k0 =>
  c [(1, v0)] k0
theorem e195n0 (K : KTC) (k : KS) (a0 : AV) (c : KN) (p : KV) : b195n0 K k a0 c p = wReg Tryz.prog K [1] o195n0 [(0, a0)] k c p := by unfold b195n0; kernel_rfl
noncomputable def s195n0 (K : KTC) (e : Env) (k : KS) (c : KN) (p : KV) : Kr := gt e 0 fun a0 => b195n0 K k a0 c p
theorem p195n0 (K : KTC) (K' : KT) (hK : CSound K K') : FitsC Tryz.prog K' (.reg (s195n0 K)) (.reg o195n0 [1]) := fun e k c p y h => by
  obtain ⟨a0, h0, h⟩ := gt_some h
  exact wreg_fit hK (by decide +kernel) (keep_cons h0 (keep_nil)) (e195n0 K k a0 c p) h
def o195n1 : List RI := [⟨(some 7), none, (.q (.fld 0 0 (.t 1)))⟩, ⟨(some 8), none, (.rd (.ld false 1 (.t 7)))⟩, ⟨(some 9), none, (.q (.bin .eql 3 (.t 8) (.k (.int .i64 0))))⟩]
noncomputable def b195n1 (K : KTC) (k : KS) (a1 : AV) (c : KN) (p : KV) : Kr :=
  xFld 0 0 a1 fun v0 =>
  xLd k.t false 1 v0 fun v1 =>
  xEql 3 v1 (.sc (.int .i64 0)) fun v2 =>
  c [(1, a1), (9, v2)] k
theorem e195n1 (K : KTC) (k : KS) (a1 : AV) (c : KN) (p : KV) : b195n1 K k a1 c p = wReg Tryz.prog K [1, 9] o195n1 [(1, a1)] k c p := by unfold b195n1; simp only [xEql_eq, xLd_eq, xFld_eq]; kernel_rfl
noncomputable def s195n1 (K : KTC) (e : Env) (k : KS) (c : KN) (p : KV) : Kr := gt e 1 fun a1 => b195n1 K k a1 c p
theorem p195n1 (K : KTC) (K' : KT) (hK : CSound K K') : FitsC Tryz.prog K' (.reg (s195n1 K)) (.reg o195n1 [1, 9]) := fun e k c p y h => by
  obtain ⟨a1, h1, h⟩ := gt_some h
  exact wreg_fit hK (by decide +kernel) (keep_cons h1 (keep_nil)) (e195n1 K k a1 c p) h
def o195n2 : List RI := [⟨(some 10), none, (.rd (.ld true 12 (.t 1)))⟩, ⟨(some 11), none, (.q (.bld (.agg [1, 1, 1, 1, 1, 1, 1, 4, 1] [(.sc (.int .i64 0)), (.sc (.int .i64 0)), (.sc (.int .i64 0)), (.sc (.int .i64 0)), (.sc (.int .i64 0)), (.sc (.int .i64 0)), (.sc (.int .i64 0)), (.arr 1 (List.replicate 4 (.sc (.int .i64 0)))), (.sc (.int .i64 0))]) []))⟩, ⟨(some 12), none, (.q (.bin .eql 53 (.t 10) (.t 11)))⟩, ⟨(some 2), none, (.q (.mov (.t 12)))⟩]
noncomputable def b195n2 (K : KTC) (k : KS) (a1 : AV) (c : KN) (p : KV) : Kr :=
  xLd k.t true 12 a1 fun v0 =>
  (kQ Tryz.prog [] (.bld (.agg [1, 1, 1, 1, 1, 1, 1, 4, 1] [(.sc (.int .i64 0)), (.sc (.int .i64 0)), (.sc (.int .i64 0)), (.sc (.int .i64 0)), (.sc (.int .i64 0)), (.sc (.int .i64 0)), (.sc (.int .i64 0)), (.arr 1 (List.replicate 4 (.sc (.int .i64 0)))), (.sc (.int .i64 0))]) [])).bind fun v1 =>
  xEql 53 v0 v1 fun v2 =>
  c [(1, a1), (2, v2)] k
theorem e195n2 (K : KTC) (k : KS) (a1 : AV) (c : KN) (p : KV) : b195n2 K k a1 c p = wReg Tryz.prog K [1, 2] o195n2 [(1, a1)] k c p := by unfold b195n2; simp only [xEql_eq, xLd_eq]; kernel_rfl
noncomputable def s195n2 (K : KTC) (e : Env) (k : KS) (c : KN) (p : KV) : Kr := gt e 1 fun a1 => b195n2 K k a1 c p
theorem p195n2 (K : KTC) (K' : KT) (hK : CSound K K') : FitsC Tryz.prog K' (.reg (s195n2 K)) (.reg o195n2 [1, 2]) := fun e k c p y h => by
  obtain ⟨a1, h1, h⟩ := gt_some h
  exact wreg_fit hK (by decide +kernel) (keep_cons h1 (keep_nil)) (e195n2 K k a1 c p) h
def o195n3 : List RI := [⟨(some 13), none, (.q (.fld 7 7 (.t 1)))⟩, ⟨(some 14), none, (.rd (.ld true 4 (.t 13)))⟩, ⟨(some 15), none, (.q (.mov (.k (.int .i64 0))))⟩]
noncomputable def b195n3 (K : KTC) (k : KS) (a1 : AV) (c : KN) (p : KV) : Kr :=
  xFld 7 7 a1 fun v0 =>
  xLd k.t true 4 v0 fun v1 =>
  c [(1, a1), (14, v1), (15, (.sc (.int .i64 0)))] k
theorem e195n3 (K : KTC) (k : KS) (a1 : AV) (c : KN) (p : KV) : b195n3 K k a1 c p = wReg Tryz.prog K [1, 14, 15] o195n3 [(1, a1)] k c p := by unfold b195n3; simp only [xLd_eq, xFld_eq]; kernel_rfl
noncomputable def s195n3 (K : KTC) (e : Env) (k : KS) (c : KN) (p : KV) : Kr := gt e 1 fun a1 => b195n3 K k a1 c p
theorem p195n3 (K : KTC) (K' : KT) (hK : CSound K K') : FitsC Tryz.prog K' (.reg (s195n3 K)) (.reg o195n3 [1, 14, 15]) := fun e k c p y h => by
  obtain ⟨a1, h1, h⟩ := gt_some h
  exact wreg_fit hK (by decide +kernel) (keep_cons h1 (keep_nil)) (e195n3 K k a1 c p) h
def o195n4 : List RI := [⟨(some 16), none, (.q (.bin .lss 3 (.t 15) (.k (.int .i64 4))))⟩]
noncomputable def b195n4 (K : KTC) (k : KS) (a15 a1 a14 : AV) (c : KN) (p : KV) : Kr :=
  xLss 3 a15 (.sc (.int .i64 4)) fun v0 =>
  c [(1, a1), (14, a14), (15, a15), (16, v0)] k
theorem e195n4 (K : KTC) (k : KS) (a15 a1 a14 : AV) (c : KN) (p : KV) : b195n4 K k a15 a1 a14 c p = wReg Tryz.prog K [1, 14, 15, 16] o195n4 [(15, a15), (1, a1), (14, a14)] k c p := by unfold b195n4; simp only [xLss_eq]; kernel_rfl
noncomputable def s195n4 (K : KTC) (e : Env) (k : KS) (c : KN) (p : KV) : Kr := gt e 15 fun a15 => gt e 1 fun a1 => gt e 14 fun a14 => b195n4 K k a15 a1 a14 c p
theorem p195n4 (K : KTC) (K' : KT) (hK : CSound K K') : FitsC Tryz.prog K' (.reg (s195n4 K)) (.reg o195n4 [1, 14, 15, 16]) := fun e k c p y h => by
  obtain ⟨a15, h15, h⟩ := gt_some h
  obtain ⟨a1, h1, h⟩ := gt_some h
  obtain ⟨a14, h14, h⟩ := gt_some h
  exact wreg_fit hK (by decide +kernel) (keep_cons h15 (keep_cons h1 (keep_cons h14 (keep_nil)))) (e195n4 K k a15 a1 a14 c p) h
def o195n5 : List RI := [⟨(some 17), none, (.q (.ixv 4 1 false (.t 14) (.t 15)))⟩, ⟨(some 4), none, (.q (.mov (.t 17)))⟩]
noncomputable def b195n5 (K : KTC) (k : KS) (a14 a15 a1 : AV) (c : KN) (p : KV) : Kr :=
  (kQ Tryz.prog [(14, a14), (15, a15)] (.ixv 4 1 false (.t 14) (.t 15))).bind fun v0 =>
  c [(1, a1), (4, v0), (14, a14), (15, a15)] k
theorem e195n5 (K : KTC) (k : KS) (a14 a15 a1 : AV) (c : KN) (p : KV) : b195n5 K k a14 a15 a1 c p = wReg Tryz.prog K [1, 4, 14, 15] o195n5 [(14, a14), (15, a15), (1, a1)] k c p := by unfold b195n5; kernel_rfl
noncomputable def s195n5 (K : KTC) (e : Env) (k : KS) (c : KN) (p : KV) : Kr := gt e 14 fun a14 => gt e 15 fun a15 => gt e 1 fun a1 => b195n5 K k a14 a15 a1 c p
theorem p195n5 (K : KTC) (K' : KT) (hK : CSound K K') : FitsC Tryz.prog K' (.reg (s195n5 K)) (.reg o195n5 [1, 4, 14, 15]) := fun e k c p y h => by
  obtain ⟨a14, h14, h⟩ := gt_some h
  obtain ⟨a15, h15, h⟩ := gt_some h
  obtain ⟨a1, h1, h⟩ := gt_some h
  exact wreg_fit hK (by decide +kernel) (keep_cons h14 (keep_cons h15 (keep_cons h1 (keep_nil)))) (e195n5 K k a14 a15 a1 c p) h
def o195n6 : List RI := [⟨(some 18), none, (.q (.mov (.t 4)))⟩, ⟨(some 19), none, (.ac (.callf 209 [(.t 18), (.k (.int .i64 (-1000000))), (.k (.int .i64 1000000))]))⟩, ⟨(some 20), none, (.q (.un .not (.t 19)))⟩]
noncomputable def b195n6 (K : KTC) (k : KS) (a4 a1 a14 a15 : AV) (c : KN) (p : KV) : Kr :=
  K 209 [a4, (.sc (.int .i64 (-1000000))), (.sc (.int .i64 1000000))] k (fun v0 k0 =>
  (kQ Tryz.prog [(19, v0)] (.un .not (.t 19))).bind fun v1 =>
  c [(1, a1), (14, a14), (15, a15), (20, v1)] k0) (p)
theorem e195n6 (K : KTC) (k : KS) (a4 a1 a14 a15 : AV) (c : KN) (p : KV) : b195n6 K k a4 a1 a14 a15 c p = wReg Tryz.prog K [1, 14, 15, 20] o195n6 [(4, a4), (1, a1), (14, a14), (15, a15)] k c p := by unfold b195n6; kernel_rfl
noncomputable def s195n6 (K : KTC) (e : Env) (k : KS) (c : KN) (p : KV) : Kr := gt e 4 fun a4 => gt e 1 fun a1 => gt e 14 fun a14 => gt e 15 fun a15 => b195n6 K k a4 a1 a14 a15 c p
theorem p195n6 (K : KTC) (K' : KT) (hK : CSound K K') : FitsC Tryz.prog K' (.reg (s195n6 K)) (.reg o195n6 [1, 14, 15, 20]) := fun e k c p y h => by
  obtain ⟨a4, h4, h⟩ := gt_some h
  obtain ⟨a1, h1, h⟩ := gt_some h
  obtain ⟨a14, h14, h⟩ := gt_some h
  obtain ⟨a15, h15, h⟩ := gt_some h
  exact wreg_fit hK (by decide +kernel) (keep_cons h4 (keep_cons h1 (keep_cons h14 (keep_cons h15 (keep_nil))))) (e195n6 K k a4 a1 a14 a15 c p) h
def o195n7 : List RI := [⟨(some 2), none, (.q (.mov (.k (.bool false))))⟩]
noncomputable def b195n7 (K : KTC) (k : KS) (a1 : AV) (c : KN) (p : KV) : Kr :=
  c [(1, a1), (2, (.sc (.bool false)))] k
theorem e195n7 (K : KTC) (k : KS) (a1 : AV) (c : KN) (p : KV) : b195n7 K k a1 c p = wReg Tryz.prog K [1, 2] o195n7 [(1, a1)] k c p := by unfold b195n7; kernel_rfl
noncomputable def s195n7 (K : KTC) (e : Env) (k : KS) (c : KN) (p : KV) : Kr := gt e 1 fun a1 => b195n7 K k a1 c p
theorem p195n7 (K : KTC) (K' : KT) (hK : CSound K K') : FitsC Tryz.prog K' (.reg (s195n7 K)) (.reg o195n7 [1, 2]) := fun e k c p y h => by
  obtain ⟨a1, h1, h⟩ := gt_some h
  exact wreg_fit hK (by decide +kernel) (keep_cons h1 (keep_nil)) (e195n7 K k a1 c p) h
def o195n8 : List RI := [⟨(some 21), none, (.q (.bin .add 3 (.t 15) (.k (.int .i64 1))))⟩, ⟨(some 15), none, (.q (.mov (.t 21)))⟩]
noncomputable def b195n8 (K : KTC) (k : KS) (a15 a1 a14 : AV) (c : KN) (p : KV) : Kr :=
  xAdd 3 a15 (.sc (.int .i64 1)) fun v0 =>
  c [(1, a1), (14, a14), (15, v0)] k
theorem e195n8 (K : KTC) (k : KS) (a15 a1 a14 : AV) (c : KN) (p : KV) : b195n8 K k a15 a1 a14 c p = wReg Tryz.prog K [1, 14, 15] o195n8 [(15, a15), (1, a1), (14, a14)] k c p := by unfold b195n8; simp only [xAdd_eq]; kernel_rfl
noncomputable def s195n8 (K : KTC) (e : Env) (k : KS) (c : KN) (p : KV) : Kr := gt e 15 fun a15 => gt e 1 fun a1 => gt e 14 fun a14 => b195n8 K k a15 a1 a14 c p
theorem p195n8 (K : KTC) (K' : KT) (hK : CSound K K') : FitsC Tryz.prog K' (.reg (s195n8 K)) (.reg o195n8 [1, 14, 15]) := fun e k c p y h => by
  obtain ⟨a15, h15, h⟩ := gt_some h
  obtain ⟨a1, h1, h⟩ := gt_some h
  obtain ⟨a14, h14, h⟩ := gt_some h
  exact wreg_fit hK (by decide +kernel) (keep_cons h15 (keep_cons h1 (keep_cons h14 (keep_nil)))) (e195n8 K k a15 a1 a14 c p) h
def o195n9 : List RI := [⟨(some 22), none, (.q (.fld 2 2 (.t 1)))⟩, ⟨(some 23), none, (.rd (.ld false 1 (.t 22)))⟩, ⟨(some 24), none, (.ac (.callf 209 [(.t 23), (.k (.int .i64 0)), (.k (.int .i64 4095))]))⟩, ⟨(some 25), none, (.q (.mov (.t 24)))⟩, ⟨(some 26), (some (25, true)), (.q (.fld 3 3 (.t 1)))⟩, ⟨(some 27), (some (25, true)), (.rd (.ld false 1 (.t 26)))⟩, ⟨(some 28), (some (25, true)), (.ac (.callf 209 [(.t 27), (.k (.int .i64 0)), (.k (.int .i64 4095))]))⟩, ⟨(some 29), none, (.q (.pick (.t 25) (.t 28) (.k (.bool false))))⟩, ⟨(some 5), none, (.q (.mov (.t 29)))⟩]
def o195n10 : List RI := [⟨(some 30), none, (.q (.fld 4 4 (.t 1)))⟩, ⟨(some 31), none, (.rd (.ld false 1 (.t 30)))⟩, ⟨(some 32), none, (.ac (.callf 209 [(.t 31), (.k (.int .i64 (-64))), (.k (.int .i64 64))]))⟩, ⟨(some 33), none, (.q (.mov (.t 32)))⟩, ⟨(some 34), (some (33, true)), (.q (.fld 5 5 (.t 1)))⟩, ⟨(some 35), (some (33, true)), (.rd (.ld false 1 (.t 34)))⟩, ⟨(some 36), (some (33, true)), (.ac (.callf 209 [(.t 35), (.k (.int .i64 (-64))), (.k (.int .i64 64))]))⟩, ⟨(some 37), none, (.q (.pick (.t 33) (.t 36) (.k (.bool false))))⟩, ⟨(some 6), none, (.q (.mov (.t 37)))⟩]
def o195n11 : List RI := [⟨(some 38), none, (.q (.fld 0 0 (.t 1)))⟩, ⟨(some 39), none, (.rd (.ld false 1 (.t 38)))⟩, ⟨(some 40), none, (.q (.bin .eql 3 (.t 39) (.k (.int .i64 1))))⟩, ⟨(some 41), none, (.q (.mov (.t 40)))⟩, ⟨(some 42), (some (41, false)), (.q (.fld 0 0 (.t 1)))⟩, ⟨(some 43), (some (41, false)), (.rd (.ld false 1 (.t 42)))⟩, ⟨(some 44), (some (41, false)), (.q (.bin .eql 3 (.t 43) (.k (.int .i64 2))))⟩, ⟨(some 45), none, (.q (.pick (.t 41) (.k (.bool true)) (.t 44)))⟩, ⟨(some 46), none, (.q (.mov (.t 45)))⟩, ⟨(some 47), (some (46, true)), (.q (.fld 1 1 (.t 1)))⟩, ⟨(some 48), (some (46, true)), (.rd (.ld false 1 (.t 47)))⟩, ⟨(some 49), (some (46, true)), (.ac (.callf 209 [(.t 48), (.k (.int .i64 0)), (.k (.int .i64 7))]))⟩, ⟨(some 50), none, (.q (.pick (.t 46) (.t 49) (.k (.bool false))))⟩, ⟨(some 51), none, (.q (.mov (.t 50)))⟩, ⟨(some 52), (some (51, true)), (.q (.mov (.t 5)))⟩, ⟨(some 53), none, (.q (.pick (.t 51) (.t 52) (.k (.bool false))))⟩, ⟨(some 54), none, (.q (.mov (.t 53)))⟩, ⟨(some 55), (some (54, true)), (.q (.mov (.t 6)))⟩, ⟨(some 56), none, (.q (.pick (.t 54) (.t 55) (.k (.bool false))))⟩, ⟨(some 57), none, (.q (.mov (.t 56)))⟩, ⟨(some 58), (some (57, true)), (.q (.fld 6 6 (.t 1)))⟩, ⟨(some 59), (some (57, true)), (.rd (.ld false 1 (.t 58)))⟩, ⟨(some 60), (some (57, true)), (.ac (.callf 209 [(.t 59), (.k (.int .i64 0)), (.k (.int .i64 600))]))⟩, ⟨(some 61), none, (.q (.pick (.t 57) (.t 60) (.k (.bool false))))⟩, ⟨(some 62), none, (.q (.mov (.t 61)))⟩, ⟨(some 63), (some (62, true)), (.q (.fld 8 11 (.t 1)))⟩, ⟨(some 64), (some (62, true)), (.rd (.ld false 1 (.t 63)))⟩, ⟨(some 65), (some (62, true)), (.ac (.callf 209 [(.t 64), (.k (.int .i64 0)), (.k (.int .i64 65535))]))⟩, ⟨(some 66), none, (.q (.pick (.t 62) (.t 65) (.k (.bool false))))⟩, ⟨(some 2), none, (.q (.mov (.t 66)))⟩]
def r195 : RFn := ⟨1, .seq (.reg o195n0 [1]) (.seq (.seq (.reg o195n1 [1, 9]) (.cond (.t 9) (.seq (.reg o195n2 [1, 2]) (.ret)) (.skip))) (.seq (.seq (.reg o195n3 [1, 14, 15]) (.block 0 (.loop [1, 14, 15] (.seq (.reg o195n4 [1, 14, 15, 16]) (.seq (.cond (.t 16) (.skip) (.exit 0)) (.seq (.block 1 (.seq (.reg o195n5 [1, 4, 14, 15]) (.seq (.reg o195n6 [1, 14, 15, 20]) (.cond (.t 20) (.seq (.reg o195n7 [1, 2]) (.ret)) (.skip))))) (.reg o195n8 [1, 14, 15]))))))) (.seq (.reg o195n9 [1, 5]) (.seq (.reg o195n10 [1, 5, 6]) (.seq (.reg o195n11 [1, 2]) (.ret)))))), [.tmp 2], [1]⟩
noncomputable def q195 (K : KTC) : FK := .seq (.reg (s195n0 K)) (.seq (.seq (.reg (s195n1 K)) (.cond (.t 9) (.seq (.reg (s195n2 K)) (.ret)) (.skip))) (.seq (.seq (.reg (s195n3 K)) (.block 0 (.loop [1, 14, 15] (.seq (.reg (s195n4 K)) (.seq (.cond (.t 16) (.skip) (.exit 0)) (.seq (.block 1 (.seq (.reg (s195n5 K)) (.seq (.reg (s195n6 K)) (.cond (.t 20) (.seq (.reg (s195n7 K)) (.ret)) (.skip))))) (.reg (s195n8 K)))))))) (.seq (.reg fun e k c p => wReg Tryz.prog K [1, 5] o195n9 e k c p) (.seq (.reg fun e k c p => wReg Tryz.prog K [1, 5, 6] o195n10 e k c p) (.seq (.reg fun e k c p => wReg Tryz.prog K [1, 2] o195n11 e k c p) (.ret))))))
theorem ok195 (K : KTC) (K' : KT) (hK : CSound K K') : FitsC Tryz.prog K' (q195 K) r195.code := hs (p195n0 K _ hK) (hs (hs (p195n1 K _ hK) (hc (hs (p195n2 K _ hK) (hr)) (hk))) (hs (hs (p195n3 K _ hK) (hb (hl (by decide +kernel) (hs (p195n4 K _ hK) (hs (hc (hk) (hx)) (hs (hb (hs (p195n5 K _ hK) (hs (p195n6 K _ hK) (hc (hs (p195n7 K _ hK) (hr)) (hk))))) (p195n8 K _ hK))))))) (hs (wslow_reg hK) (hs (wslow_reg hK) (hs (wslow_reg hK) (hr))))))
noncomputable def g195 : HFn Tryz.prog := ⟨r195, q195, ok195⟩
theorem c195 : chkF Tryz.prog Tryz.f195 r195 = true := by decide +kernel

/-- doubletake/tag.Open -/
def r196 : RFn := ⟨2,
  .seq (
  .reg [⟨(some 4), none, (.q (.mov .nils))⟩,
    ⟨(some 5), none, (.q (.mov (.k (.bool false))))⟩] [0, 1]) (
  .seq (
  .seq (
  .reg [⟨(some 7), none, (.q (.mov (.t 1)))⟩,
    ⟨(some 8), none, (.q (.len false (.t 7)))⟩,
    ⟨(some 9), none, (.q (.bin .lss 3 (.t 8) (.k (.int .i64 4))))⟩] [0, 1, 9]) (
  .cond (.t 9) (
   .seq (
   .reg [⟨(some 4), none, (.q (.mov .nils))⟩,
     ⟨(some 5), none, (.q (.mov (.k (.bool false))))⟩] [4, 5]) (
   .ret)) (
   .skip))) (
  .seq (
  .reg [⟨(some 10), none, (.q (.mov (.t 1)))⟩,
    ⟨(some 11), none, (.q (.mov (.t 1)))⟩,
    ⟨(some 12), none, (.q (.len false (.t 11)))⟩,
    ⟨(some 13), none, (.q (.bin .sub 3 (.t 12) (.k (.int .i64 4))))⟩,
    ⟨(some 14), none, (.q (.slc 1 (.t 10) none (some (.t 13))))⟩,
    ⟨(some 6), none, (.q (.mov (.t 14)))⟩] [0, 1, 6]) (
  .seq (
  .seq (
  .reg [⟨(some 15), none, (.q (.mov (.t 0)))⟩,
    ⟨(some 16), none, (.q (.mov (.t 6)))⟩,
    ⟨(some 17), none, (.ac (.callf 130 [(.t 15), (.t 16)]))⟩,
    ⟨(some 18), none, (.q (.mov (.t 1)))⟩,
    ⟨(some 19), none, (.ac (.callf 201 [(.t 17), (.t 18)]))⟩,
    ⟨(some 20), none, (.q (.un .not (.t 19)))⟩] [6, 20]) (
  .cond (.t 20) (
   .seq (
   .reg [⟨(some 4), none, (.q (.mov .nils))⟩,
     ⟨(some 5), none, (.q (.mov (.k (.bool false))))⟩] [4, 5]) (
   .ret)) (
   .skip))) (
  .seq (
  .reg [⟨(some 21), none, (.q (.mov (.t 6)))⟩,
    ⟨(some 22), none, (.ac (.callf 154 [(.t 21)]))⟩,
    ⟨(some 4), none, (.q (.mov (.t 22)))⟩,
    ⟨(some 5), none, (.q (.mov (.k (.bool true))))⟩] [4, 5]) (
  .ret))))),
  [.tmp 4, .tmp 5], []⟩
noncomputable def g196 : HFn Tryz.prog := ⟨r196, fun K => wslow Tryz.prog K r196.code, fun _ _ hK => wslow_fits hK _ (by decide +kernel)⟩
theorem c196 : chkF Tryz.prog Tryz.f196 r196 = true := by decide +kernel

/-- doubletake/packet.Open$1 -/
def r198 : RFn := ⟨2,
  .reg [⟨(some 2), none, (.rd (.ld false 1 (.t 0)))⟩,
    ⟨(some 3), none, (.ac (.callf 200 [(.t 2)]))⟩,
    ⟨(some 4), none, (.ac (.callf 199 [(.t 3)]))⟩,
    ⟨none, none, (.ac (.st 13 (.t 1) (.t 4)))⟩] [],
  [], []⟩
noncomputable def g198 : HFn Tryz.prog := ⟨r198, fun K => wslow Tryz.prog K r198.code, fun _ _ hK => wslow_fits hK _ (by decide +kernel)⟩
theorem c198 : chkF Tryz.prog Tryz.f198 r198 = true := by decide +kernel

/-- doubletake/packet.read -/
def r199 : RFn := ⟨1,
  .seq (
  .reg [⟨(some 2), none, (.al (.alloc (.agg [1, 1, 1, 1, 1, 1, 1, 1, 1, 1, 1, 1, 1] [(.sc (.int .i64 0)), (.sc (.int .i64 0)), (.sc (.int .i64 0)), (.sc (.int .i64 0)), (.sc (.bool false)), (.sc (.int .u64 0)), (.sc (.int .i64 0)), (.sc (.int .i64 0)), (.slice none 0), (.sc (.int .i64 0)), (.slice none 0), (.sc (.int .i64 0)), (.sc (.int .i64 0))])))⟩] [0, 2]) (
  .seq (
  .reg [⟨(some 3), none, (.al (.alloc (.agg [1, 1, 1, 1, 1, 1, 1, 1, 1, 1, 1, 1, 1] [(.sc (.int .i64 0)), (.sc (.int .i64 0)), (.sc (.int .i64 0)), (.sc (.int .i64 0)), (.sc (.bool false)), (.sc (.int .u64 0)), (.sc (.int .i64 0)), (.sc (.int .i64 0)), (.slice none 0), (.sc (.int .i64 0)), (.slice none 0), (.sc (.int .i64 0)), (.sc (.int .i64 0))])))⟩] [0, 2, 3]) (
  .seq (
  .reg [⟨(some 4), none, (.q (.mov (.t 0)))⟩,
    ⟨(some 5), none, (.ac (.callf 219 [(.t 4), (.k (.int .i64 3))]))⟩,
    ⟨(some 6), none, (.q (.conv 39 3 (.t 5)))⟩,
    ⟨(some 7), none, (.q (.mov (.t 0)))⟩,
    ⟨(some 8), none, (.ac (.callf 219 [(.t 7), (.k (.int .i64 3))]))⟩,
    ⟨(some 9), none, (.q (.conv 39 3 (.t 8)))⟩,
    ⟨(some 10), none, (.q (.fld 0 0 (.t 3)))⟩,
    ⟨none, none, (.ac (.st 1 (.t 10) (.t 6)))⟩,
    ⟨(some 11), none, (.q (.fld 1 1 (.t 3)))⟩,
    ⟨none, none, (.ac (.st 1 (.t 11) (.t 9)))⟩] [0, 2, 3]) (
  .seq (
  .reg [⟨(some 12), none, (.q (.mov (.t 0)))⟩,
    ⟨(some 13), none, (.ac (.callf 219 [(.t 12), (.k (.int .i64 16))]))⟩,
    ⟨(some 14), none, (.q (.conv 39 3 (.t 13)))⟩,
    ⟨(some 15), none, (.q (.mov (.t 0)))⟩,
    ⟨(some 16), none, (.ac (.callf 219 [(.t 15), (.k (.int .i64 16))]))⟩,
    ⟨(some 17), none, (.q (.conv 39 3 (.t 16)))⟩,
    ⟨(some 18), none, (.q (.fld 2 2 (.t 3)))⟩,
    ⟨none, none, (.ac (.st 1 (.t 18) (.t 14)))⟩,
    ⟨(some 19), none, (.q (.fld 3 3 (.t 3)))⟩,
    ⟨none, none, (.ac (.st 1 (.t 19) (.t 17)))⟩] [0, 2, 3]) (
  .seq (
  .reg [⟨(some 20), none, (.q (.mov (.t 0)))⟩,
    ⟨(some 21), none, (.ac (.callf 219 [(.t 20), (.k (.int .i64 1))]))⟩,
    ⟨(some 22), none, (.q (.bin .eql 39 (.t 21) (.k (.int .u64 1))))⟩,
    ⟨(some 23), none, (.q (.mov (.t 0)))⟩,
    ⟨(some 24), none, (.ac (.callf 219 [(.t 23), (.k (.int .i64 64))]))⟩,
    ⟨(some 25), none, (.q (.fld 4 4 (.t 3)))⟩,
    ⟨none, none, (.ac (.st 1 (.t 25) (.t 22)))⟩,
    ⟨(some 26), none, (.q (.fld 5 5 (.t 3)))⟩,
    ⟨none, none, (.ac (.st 1 (.t 26) (.t 24)))⟩] [0, 2, 3]) (
  .seq (
  .seq (
  .reg [⟨(some 27), none, (.q (.fld 0 0 (.t 3)))⟩,
    ⟨(some 28), none, (.rd (.ld false 1 (.t 27)))⟩] [0, 2, 3, 28]) (
  .block 0 (
   .seq (
   .reg [⟨(some 30), none, (.q (.bin .eql 3 (.t 28) (.k (.int .i64 2))))⟩,
     ⟨(some 29), none, (.q (.mov (.t 30)))⟩] [0, 2, 3, 28, 29]) (
   .cond (.t 29) (
    .seq (
    .reg [⟨(some 31), none, (.q (.mov (.t 0)))⟩,
      ⟨(some 32), none, (.ac (.callf 219 [(.t 31), (.k (.int .i64 10))]))⟩,
      ⟨(some 33), none, (.q (.conv 39 3 (.t 32)))⟩,
      ⟨(some 34), none, (.q (.mov (.t 0)))⟩,
      ⟨(some 35), none, (.ac (.callf 219 [(.t 34), (.k (.int .i64 10))]))⟩,
      ⟨(some 36), none, (.q (.conv 39 3 (.t 35)))⟩,
      ⟨(some 37), none, (.q (.fld 6 6 (.t 3)))⟩,
      ⟨none, none, (.ac (.st 1 (.t 37) (.t 33)))⟩,
      ⟨(some 38), none, (.q (.fld 7 7 (.t 3)))⟩,
      ⟨none, none, (.ac (.st 1 (.t 38) (.t 36)))⟩] [0, 2, 3]) (
    .seq (
    .reg [⟨(some 39), none, (.q (.mov (.t 0)))⟩,
      ⟨(some 40), none, (.ac (.callf 219 [(.t 39), (.k (.int .i64 5))]))⟩,
      ⟨(some 41), none, (.q (.conv 39 3 (.t 40)))⟩,
      ⟨(some 42), none, (.q (.mov (.k (.int .i64 0))))⟩] [0, 2, 3, 41, 42]) (
    .block 1 (
     .loop [0, 2, 3, 41, 42] (
      .seq (
      .reg [⟨(some 43), none, (.q (.bin .lss 3 (.t 42) (.t 41)))⟩] [0, 2, 3, 41, 42, 43]) (
      .seq (
      .cond (.t 43) (
       .skip) (
       .exit 1)) (
      .seq (
      .block 2 (
       .draw [(2, ⟨(some 46), none, (.q (.mov (.t 0)))⟩, 0),
         (3, ⟨(some 47), none, (.ac (.callf 220 [(.t 46)]))⟩, 0),
         (0, ⟨(some 44), none, (.q (.fld 8 8 (.t 3)))⟩, 1),
         (1, ⟨(some 45), none, (.rd (.ld false 1 (.t 44)))⟩, 1),
         (4, ⟨(some 48), none, (.al (.bldS 3 1 (.agg [1, 1, 1] [(.sc (.int .i64 0)), (.sc (.int .i64 0)), (.sc (.int .i64 0))]) [(0, (.t 47))]))⟩, 0),
         (5, ⟨(some 49), none, (.ac (.app true 3 24 (.t 45) (.t 48)))⟩, 0),
         (6, ⟨(some 50), none, (.q (.fld 8 8 (.t 3)))⟩, 0),
         (7, ⟨none, none, (.ac (.st 1 (.t 50) (.t 49)))⟩, 0)] [0, 2, 3, 41, 42])) (
      .reg [⟨(some 51), none, (.q (.bin .add 3 (.t 42) (.k (.int .i64 1))))⟩,
        ⟨(some 42), none, (.q (.mov (.t 51)))⟩] [0, 2, 3, 41, 42])))))))) (
    .seq (
    .reg [⟨(some 53), none, (.q (.bin .eql 3 (.t 28) (.k (.int .i64 3))))⟩,
      ⟨(some 52), none, (.q (.mov (.t 53)))⟩] [0, 2, 3, 28, 52]) (
    .cond (.t 52) (
     .reg [⟨(some 54), none, (.q (.mov (.t 0)))⟩,
       ⟨(some 55), none, (.ac (.callf 221 [(.t 54), (.t 3)]))⟩] [2, 3]) (
     .seq (
     .reg [⟨(some 57), none, (.q (.bin .eql 3 (.t 28) (.k (.int .i64 4))))⟩,
       ⟨(some 56), none, (.q (.mov (.t 57)))⟩] [0, 2, 3, 56]) (
     .cond (.t 56) (
      .reg [⟨(some 58), none, (.q (.mov (.t 0)))⟩,
        ⟨(some 59), none, (.ac (.callf 219 [(.t 58), (.k (.int .i64 10))]))⟩,
        ⟨(some 60), none, (.q (.conv 39 3 (.t 59)))⟩,
        ⟨(some 61), none, (.q (.mov (.t 0)))⟩,
        ⟨(some 62), none, (.ac (.callf 219 [(.t 61), (.k (.int .i64 62))]))⟩,
        ⟨(some 63), none, (.q (.conv 39 3 (.t 62)))⟩,
        ⟨(some 64), none, (.q (.fld 11 11 (.t 3)))⟩,
        ⟨none, none, (.ac (.st 1 (.t 64) (.t 60)))⟩,
        ⟨(some 65), none, (.q (.fld 12 12 (.t 3)))⟩,
        ⟨none, none, (.ac (.st 1 (.t 65) (.t 63)))⟩] [2, 3]) (
      .skip))))))))) (
  .seq (
  .reg [⟨(some 66), none, (.rd (.ld true 13 (.t 3)))⟩,
    ⟨none, none, (.ac (.st 13 (.t 2) (.t 66)))⟩] [2, 3]) (
  .ret))))))),
  [.cell 2 true 13], [2, 3]⟩
noncomputable def g199 : HFn Tryz.prog := ⟨r199, fun K => wslow Tryz.prog K r199.code, fun _ _ hK => wslow_fits hK _ (by decide +kernel)⟩
theorem c199 : chkF Tryz.prog Tryz.f199 r199 = true := by decide +kernel

/-- doubletake/bits.NewReader -/
def r200 : RFn := ⟨1,
  .seq (
  .reg [⟨(some 2), none, (.q (.mov .nilp))⟩] [0]) (
  .seq (
  .reg [⟨(some 3), none, (.q (.mov (.t 0)))⟩,
    ⟨(some 4), none, (.ac (.callf 154 [(.t 3)]))⟩,
    ⟨(some 5), none, (.q (.bld (.agg [1, 1] [(.slice none 0), (.sc (.int .i64 0))]) [(0, (.t 4))]))⟩,
    ⟨(some 6), none, (.al (.box (.t 5)))⟩,
    ⟨(some 2), none, (.q (.mov (.t 6)))⟩] [2]) (
  .ret)),
  [.tmp 2], []⟩
noncomputable def g200 : HFn Tryz.prog := ⟨r200, fun K => wslow Tryz.prog K r200.code, fun _ _ hK => wslow_fits hK _ (by decide +kernel)⟩
theorem c200 : chkF Tryz.prog Tryz.f200 r200 = true := by decide +kernel

/-! slices.Equal[[]byte,byte] -/
def o201n0 : List RI := [⟨(some 4), none, (.q (.mov (.k (.bool false))))⟩]
noncomputable def b201n0 (K : KTC) (k : KS) (a0 a1 : AV) (c : KN) (p : KV) : Kr :=
  c [(0, a0), (1, a1)] k
theorem e201n0 (K : KTC) (k : KS) (a0 a1 : AV) (c : KN) (p : KV) : b201n0 K k a0 a1 c p = wReg Tryz.prog K [0, 1] o201n0 [(0, a0), (1, a1)] k c p := by unfold b201n0; kernel_rfl
noncomputable def s201n0 (K : KTC) (e : Env) (k : KS) (c : KN) (p : KV) : Kr := gt e 0 fun a0 => gt e 1 fun a1 => b201n0 K k a0 a1 c p
theorem p201n0 (K : KTC) (K' : KT) (hK : CSound K K') : FitsC Tryz.prog K' (.reg (s201n0 K)) (.reg o201n0 [0, 1]) := fun e k c p y h => by
  obtain ⟨a0, h0, h⟩ := gt_some h
  obtain ⟨a1, h1, h⟩ := gt_some h
  exact wreg_fit hK (by decide +kernel) (keep_cons h0 (keep_cons h1 (keep_nil))) (e201n0 K k a0 a1 c p) h
def o201n1 : List RI := [⟨(some 6), none, (.q (.mov (.t 0)))⟩, ⟨(some 7), none, (.q (.len false (.t 6)))⟩, ⟨(some 8), none, (.q (.mov (.t 1)))⟩, ⟨(some 9), none, (.q (.len false (.t 8)))⟩, ⟨(some 10), none, (.q (.bin .neq 3 (.t 7) (.t 9)))⟩]
noncomputable def b201n1 (K : KTC) (k : KS) (a0 a1 : AV) (c : KN) (p : KV) : Kr :=
  xLen a0 fun v0 =>
  xLen a1 fun v1 =>
  xNeq 3 v0 v1 fun v2 =>
  c [(0, a0), (1, a1), (10, v2)] k
theorem e201n1 (K : KTC) (k : KS) (a0 a1 : AV) (c : KN) (p : KV) : b201n1 K k a0 a1 c p = wReg Tryz.prog K [0, 1, 10] o201n1 [(0, a0), (1, a1)] k c p := by unfold b201n1; simp only [xNeq_eq, xLen_eq]; kernel_rfl
noncomputable def s201n1 (K : KTC) (e : Env) (k : KS) (c : KN) (p : KV) : Kr := gt e 0 fun a0 => gt e 1 fun a1 => b201n1 K k a0 a1 c p
theorem p201n1 (K : KTC) (K' : KT) (hK : CSound K K') : FitsC Tryz.prog K' (.reg (s201n1 K)) (.reg o201n1 [0, 1, 10]) := fun e k c p y h => by
  obtain ⟨a0, h0, h⟩ := gt_some h
  obtain ⟨a1, h1, h⟩ := gt_some h
  exact wreg_fit hK (by decide +kernel) (keep_cons h0 (keep_cons h1 (keep_nil))) (e201n1 K k a0 a1 c p) h
def o201n2 : List RI := [⟨(some 4), none, (.q (.mov (.k (.bool false))))⟩]
noncomputable def b201n2 (K : KTC) (k : KS) (c : KN) (p : KV) : Kr :=
  c [(4, (.sc (.bool false)))] k
theorem e201n2 (K : KTC) (k : KS) (c : KN) (p : KV) : b201n2 K k  c p = wReg Tryz.prog K [4] o201n2 [] k c p := by unfold b201n2; kernel_rfl
noncomputable def s201n2 (K : KTC) (e : Env) (k : KS) (c : KN) (p : KV) : Kr := b201n2 K k  c p
theorem p201n2 (K : KTC) (K' : KT) (hK : CSound K K') : FitsC Tryz.prog K' (.reg (s201n2 K)) (.reg o201n2 [4]) := fun e k c p y h => by
  exact wreg_fit hK (by decide +kernel) (keep_nil) (e201n2 K k  c p) h
def o201n3 : List RI := [⟨(some 11), none, (.q (.mov (.t 0)))⟩, ⟨(some 12), none, (.q (.len false (.t 11)))⟩, ⟨(some 13), none, (.q (.mov (.k (.int .i64 0))))⟩]
noncomputable def b201n3 (K : KTC) (k : KS) (a0 a1 : AV) (c : KN) (p : KV) : Kr :=
  xLen a0 fun v0 =>
  c [(0, a0), (1, a1), (12, v0), (13, (.sc (.int .i64 0)))] k
theorem e201n3 (K : KTC) (k : KS) (a0 a1 : AV) (c : KN) (p : KV) : b201n3 K k a0 a1 c p = wReg Tryz.prog K [0, 1, 12, 13] o201n3 [(0, a0), (1, a1)] k c p := by unfold b201n3; simp only [xLen_eq]; kernel_rfl
noncomputable def s201n3 (K : KTC) (e : Env) (k : KS) (c : KN) (p : KV) : Kr := gt e 0 fun a0 => gt e 1 fun a1 => b201n3 K k a0 a1 c p
theorem p201n3 (K : KTC) (K' : KT) (hK : CSound K K') : FitsC Tryz.prog K' (.reg (s201n3 K)) (.reg o201n3 [0, 1, 12, 13]) := fun e k c p y h => by
  obtain ⟨a0, h0, h⟩ := gt_some h
  obtain ⟨a1, h1, h⟩ := gt_some h
  exact wreg_fit hK (by decide +kernel) (keep_cons h0 (keep_cons h1 (keep_nil))) (e201n3 K k a0 a1 c p) h
def o201n4 : List RI := [⟨(some 14), none, (.q (.bin .lss 3 (.t 13) (.t 12)))⟩]
noncomputable def b201n4 (K : KTC) (k : KS) (a13 a12 a0 a1 : AV) (c : KN) (p : KV) : Kr :=
  xLss 3 a13 a12 fun v0 =>
  c [(0, a0), (1, a1), (12, a12), (13, a13), (14, v0)] k
theorem e201n4 (K : KTC) (k : KS) (a13 a12 a0 a1 : AV) (c : KN) (p : KV) : b201n4 K k a13 a12 a0 a1 c p = wReg Tryz.prog K [0, 1, 12, 13, 14] o201n4 [(13, a13), (12, a12), (0, a0), (1, a1)] k c p := by unfold b201n4; simp only [xLss_eq]; kernel_rfl
noncomputable def s201n4 (K : KTC) (e : Env) (k : KS) (c : KN) (p : KV) : Kr := gt e 13 fun a13 => gt e 12 fun a12 => gt e 0 fun a0 => gt e 1 fun a1 => b201n4 K k a13 a12 a0 a1 c p
theorem p201n4 (K : KTC) (K' : KT) (hK : CSound K K') : FitsC Tryz.prog K' (.reg (s201n4 K)) (.reg o201n4 [0, 1, 12, 13, 14]) := fun e k c p y h => by
  obtain ⟨a13, h13, h⟩ := gt_some h
  obtain ⟨a12, h12, h⟩ := gt_some h
  obtain ⟨a0, h0, h⟩ := gt_some h
  obtain ⟨a1, h1, h⟩ := gt_some h
  exact wreg_fit hK (by decide +kernel) (keep_cons h13 (keep_cons h12 (keep_cons h0 (keep_cons h1 (keep_nil))))) (e201n4 K k a13 a12 a0 a1 c p) h
def o201n5 : List RI := [⟨(some 15), none, (.q (.mov (.t 13)))⟩, ⟨(some 5), none, (.q (.mov (.t 15)))⟩]
noncomputable def b201n5 (K : KTC) (k : KS) (a13 a0 a1 a12 : AV) (c : KN) (p : KV) : Kr :=
  c [(0, a0), (1, a1), (5, a13), (12, a12), (13, a13)] k
theorem e201n5 (K : KTC) (k : KS) (a13 a0 a1 a12 : AV) (c : KN) (p : KV) : b201n5 K k a13 a0 a1 a12 c p = wReg Tryz.prog K [0, 1, 5, 12, 13] o201n5 [(13, a13), (0, a0), (1, a1), (12, a12)] k c p := by unfold b201n5; kernel_rfl
noncomputable def s201n5 (K : KTC) (e : Env) (k : KS) (c : KN) (p : KV) : Kr := gt e 13 fun a13 => gt e 0 fun a0 => gt e 1 fun a1 => gt e 12 fun a12 => b201n5 K k a13 a0 a1 a12 c p
theorem p201n5 (K : KTC) (K' : KT) (hK : CSound K K') : FitsC Tryz.prog K' (.reg (s201n5 K)) (.reg o201n5 [0, 1, 5, 12, 13]) := fun e k c p y h => by
  obtain ⟨a13, h13, h⟩ := gt_some h
  obtain ⟨a0, h0, h⟩ := gt_some h
  obtain ⟨a1, h1, h⟩ := gt_some h
  obtain ⟨a12, h12, h⟩ := gt_some h
  exact wreg_fit hK (by decide +kernel) (keep_cons h13 (keep_cons h0 (keep_cons h1 (keep_cons h12 (keep_nil))))) (e201n5 K k a13 a0 a1 a12 c p) h
def o201n6 : Plan := [(0, ⟨(some 16), none, (.q (.mov (.t 0)))⟩, 0), (1, ⟨(some 17), none, (.q (.mov (.t 5)))⟩, 0), (2, ⟨(some 18), none, (.q (.ixs 1 (.t 16) (.t 17)))⟩, 0), (3, ⟨(some 19), none, (.rd (.ld false 1 (.t 18)))⟩, 0), (4, ⟨(some 20), none, (.q (.mov (.t 1)))⟩, 0), (5, ⟨(some 21), none, (.q (.mov (.t 5)))⟩, 0), (6, ⟨(some 22), none, (.q (.ixs 1 (.t 20) (.t 21)))⟩, 0), (7, ⟨(some 23), none, (.rd (.ld false 1 (.t 22)))⟩, 0), (8, ⟨(some 24), none, (.q (.bin .neq 5 (.t 19) (.t 23)))⟩, 0)]
noncomputable def b201n6 (K : KTC) (k : KS) (a0 a5 a1 a12 a13 : AV) (c : KN) (p : KV) : Kr :=
  xIxl k.t 1 false 1 a0 a5 fun v0 =>
  xIxl k.t 1 false 1 a1 a5 fun v1 =>
  xNeq 5 v0 v1 fun v2 =>
  c [(0, a0), (1, a1), (12, a12), (13, a13), (24, v2)] k
theorem e201n6 (K : KTC) (k : KS) (a0 a5 a1 a12 a13 : AV) (c : KN) (p : KV) : b201n6 K k a0 a5 a1 a12 a13 c p = wLive Tryz.prog K [0, 1, 12, 13, 24] o201n6 [(0, a0), (5, a5), (1, a1), (12, a12), (13, a13)] k k.t [] c p := by unfold b201n6; simp only [xNeq_eq, xIxl_eq]; kernel_rfl
noncomputable def s201n6 (K : KTC) (e : Env) (k : KS) (c : KN) (p : KV) : Kr := gt e 0 fun a0 => gt e 5 fun a5 => gt e 1 fun a1 => gt e 12 fun a12 => gt e 13 fun a13 => b201n6 K k a0 a5 a1 a12 a13 c p
theorem p201n6 (K : KTC) (K' : KT) (hK : CSound K K') : FitsC Tryz.prog K' (.reg (s201n6 K)) (.draw o201n6 [0, 1, 12, 13, 24]) := fun e k c p y h => by
  obtain ⟨a0, h0, h⟩ := gt_some h
  obtain ⟨a5, h5, h⟩ := gt_some h
  obtain ⟨a1, h1, h⟩ := gt_some h
  obtain ⟨a12, h12, h⟩ := gt_some h
  obtain ⟨a13, h13, h⟩ := gt_some h
  exact wdraw_fit hK (by decide +kernel) (keep_cons h0 (keep_cons h5 (keep_cons h1 (keep_cons h12 (keep_cons h13 (keep_nil)))))) (e201n6 K k a0 a5 a1 a12 a13 c p) h
def o201n7 : List RI := [⟨(some 4), none, (.q (.mov (.k (.bool false))))⟩]
noncomputable def b201n7 (K : KTC) (k : KS) (c : KN) (p : KV) : Kr :=
  c [(4, (.sc (.bool false)))] k
theorem e201n7 (K : KTC) (k : KS) (c : KN) (p : KV) : b201n7 K k  c p = wReg Tryz.prog K [4] o201n7 [] k c p := by unfold b201n7; kernel_rfl
noncomputable def s201n7 (K : KTC) (e : Env) (k : KS) (c : KN) (p : KV) : Kr := b201n7 K k  c p
theorem p201n7 (K : KTC) (K' : KT) (hK : CSound K K') : FitsC Tryz.prog K' (.reg (s201n7 K)) (.reg o201n7 [4]) := fun e k c p y h => by
  exact wreg_fit hK (by decide +kernel) (keep_nil) (e201n7 K k  c p) h
def o201n8 : List RI := [⟨(some 25), none, (.q (.bin .add 3 (.t 13) (.k (.int .i64 1))))⟩, ⟨(some 13), none, (.q (.mov (.t 25)))⟩]
noncomputable def b201n8 (K : KTC) (k : KS) (a13 a0 a1 a12 : AV) (c : KN) (p : KV) : Kr :=
  xAdd 3 a13 (.sc (.int .i64 1)) fun v0 =>
  c [(0, a0), (1, a1), (12, a12), (13, v0)] k
theorem e201n8 (K : KTC) (k : KS) (a13 a0 a1 a12 : AV) (c : KN) (p : KV) : b201n8 K k a13 a0 a1 a12 c p = wReg Tryz.prog K [0, 1, 12, 13] o201n8 [(13, a13), (0, a0), (1, a1), (12, a12)] k c p := by unfold b201n8; simp only [xAdd_eq]; kernel_rfl
noncomputable def s201n8 (K : KTC) (e : Env) (k : KS) (c : KN) (p : KV) : Kr := gt e 13 fun a13 => gt e 0 fun a0 => gt e 1 fun a1 => gt e 12 fun a12 => b201n8 K k a13 a0 a1 a12 c p
theorem p201n8 (K : KTC) (K' : KT) (hK : CSound K K') : FitsC Tryz.prog K' (.reg (s201n8 K)) (.reg o201n8 [0, 1, 12, 13]) := fun e k c p y h => by
  obtain ⟨a13, h13, h⟩ := gt_some h
  obtain ⟨a0, h0, h⟩ := gt_some h
  obtain ⟨a1, h1, h⟩ := gt_some h
  obtain ⟨a12, h12, h⟩ := gt_some h
  exact wreg_fit hK (by decide +kernel) (keep_cons h13 (keep_cons h0 (keep_cons h1 (keep_cons h12 (keep_nil))))) (e201n8 K k a13 a0 a1 a12 c p) h
def o201n9 : List RI := [⟨(some 4), none, (.q (.mov (.k (.bool true))))⟩]
noncomputable def b201n9 (K : KTC) (k : KS) (c : KN) (p : KV) : Kr :=
  c [(4, (.sc (.bool true)))] k
theorem e201n9 (K : KTC) (k : KS) (c : KN) (p : KV) : b201n9 K k  c p = wReg Tryz.prog K [4] o201n9 [] k c p := by unfold b201n9; kernel_rfl
noncomputable def s201n9 (K : KTC) (e : Env) (k : KS) (c : KN) (p : KV) : Kr := b201n9 K k  c p
theorem p201n9 (K : KTC) (K' : KT) (hK : CSound K K') : FitsC Tryz.prog K' (.reg (s201n9 K)) (.reg o201n9 [4]) := fun e k c p y h => by
  exact wreg_fit hK (by decide +kernel) (keep_nil) (e201n9 K k  c p) h
def r201 : RFn := ⟨2, .seq (.reg o201n0 [0, 1]) (.seq (.seq (.reg o201n1 [0, 1, 10]) (.cond (.t 10) (.seq (.reg o201n2 [4]) (.ret)) (.skip))) (.seq (.seq (.reg o201n3 [0, 1, 12, 13]) (.block 0 (.loop [0, 1, 12, 13] (.seq (.reg o201n4 [0, 1, 12, 13, 14]) (.seq (.cond (.t 14) (.skip) (.exit 0)) (.seq (.block 1 (.seq (.reg o201n5 [0, 1, 5, 12, 13]) (.seq (.draw o201n6 [0, 1, 12, 13, 24]) (.cond (.t 24) (.seq (.reg o201n7 [4]) (.ret)) (.skip))))) (.reg o201n8 [0, 1, 12, 13]))))))) (.seq (.reg o201n9 [4]) (.ret)))), [.tmp 4], []⟩
noncomputable def q201 (K : KTC) : FK := .seq (.reg (s201n0 K)) (.seq (.seq (.reg (s201n1 K)) (.cond (.t 10) (.seq (.reg (s201n2 K)) (.ret)) (.skip))) (.seq (.seq (.reg (s201n3 K)) (.block 0 (.loop [0, 1, 12, 13] (.seq (.reg (s201n4 K)) (.seq (.cond (.t 14) (.skip) (.exit 0)) (.seq (.block 1 (.seq (.reg (s201n5 K)) (.seq (.reg (s201n6 K)) (.cond (.t 24) (.seq (.reg (s201n7 K)) (.ret)) (.skip))))) (.reg (s201n8 K)))))))) (.seq (.reg (s201n9 K)) (.ret))))
theorem ok201 (K : KTC) (K' : KT) (hK : CSound K K') : FitsC Tryz.prog K' (q201 K) r201.code := hs (p201n0 K _ hK) (hs (hs (p201n1 K _ hK) (hc (hs (p201n2 K _ hK) (hr)) (hk))) (hs (hs (p201n3 K _ hK) (hb (hl (by decide +kernel) (hs (p201n4 K _ hK) (hs (hc (hk) (hx)) (hs (hb (hs (p201n5 K _ hK) (hs (p201n6 K _ hK) (hc (hs (p201n7 K _ hK) (hr)) (hk))))) (p201n8 K _ hK))))))) (hs (p201n9 K _ hK) (hr))))
noncomputable def g201 : HFn Tryz.prog := ⟨r201, q201, ok201⟩
theorem c201 : chkF Tryz.prog Tryz.f201 r201 = true := by decide +kernel

/-- doubletake/seq.Ahead -/
def r202 : RFn := ⟨2,
  .seq (
  .reg [⟨(some 4), none, (.q (.mov (.k (.int .i64 0))))⟩] [0, 1]) (
  .seq (
  .reg [⟨(some 6), none, (.q (.mov (.t 0)))⟩,
    ⟨(some 7), none, (.ac (.callf 183 [(.t 6)]))⟩,
    ⟨(some 8), none, (.q (.mov (.t 1)))⟩,
    ⟨(some 9), none, (.ac (.callf 183 [(.t 8)]))⟩,
    ⟨(some 10), none, (.q (.bin .sub 3 (.t 7) (.t 9)))⟩,
    ⟨(some 11), none, (.ac (.callf 183 [(.t 10)]))⟩,
    ⟨(some 5), none, (.q (.mov (.t 11)))⟩] [5]) (
  .seq (
  .seq (
  .reg [⟨(some 12), none, (.q (.mov (.t 5)))⟩,
    ⟨(some 13), none, (.q (.bin .geq 3 (.t 12) (.k (.int .i64 32768))))⟩] [5, 13]) (
  .cond (.t 13) (
   .seq (
   .reg [⟨(some 14), none, (.q (.mov (.t 5)))⟩,
     ⟨(some 15), none, (.q (.bin .sub 3 (.t 14) (.k (.int .i64 65536))))⟩,
     ⟨(some 4), none, (.q (.mov (.t 15)))⟩] [4]) (
   .ret)) (
   .skip))) (
  .seq (
  .reg [⟨(some 16), none, (.q (.mov (.t 5)))⟩,
    ⟨(some 4), none, (.q (.mov (.t 16)))⟩] [4]) (
  .ret)))),
  [.tmp 4], []⟩
noncomputable def g202 : HFn Tryz.prog := ⟨r202, fun K => wslow Tryz.prog K r202.code, fun _ _ hK => wslow_fits hK _ (by decide +kernel)⟩
theorem c202 : chkF Tryz.prog Tryz.f202 r202 = true := by decide +kernel

/-- doubletake/window.bit -/
def r203 : RFn := ⟨1,
  .seq (
  .reg [⟨(some 2), none, (.q (.mov (.k (.int .u64 0))))⟩] [0]) (
  .seq (
  .seq (
  .reg [⟨(some 3), none, (.q (.mov (.t 0)))⟩,
    ⟨(some 4), none, (.q (.bin .lss 3 (.t 3) (.k (.int .i64 1))))⟩,
    ⟨(some 5), none, (.q (.mov (.t 4)))⟩,
    ⟨(some 6), (some (5, false)), (.q (.mov (.t 0)))⟩,
    ⟨(some 7), (some (5, false)), (.q (.bin .gtr 3 (.t 6) (.k (.int .i64 64))))⟩,
    ⟨(some 8), none, (.q (.pick (.t 5) (.k (.bool true)) (.t 7)))⟩] [0, 8]) (
  .cond (.t 8) (
   .seq (
   .reg [⟨(some 2), none, (.q (.mov (.k (.int .u64 0))))⟩] [2]) (
   .ret)) (
   .skip))) (
  .seq (
  .reg [⟨(some 9), none, (.q (.mov (.t 0)))⟩,
    ⟨(some 10), none, (.q (.bin .sub 3 (.t 9) (.k (.int .i64 1))))⟩,
    ⟨(some 11), none, (.q (.bin .shl 39 (.k (.int .u64 1)) (.t 10)))⟩,
    ⟨(some 2), none, (.q (.mov (.t 11)))⟩] [2]) (
  .ret))),
  [.tmp 2], []⟩
noncomputable def g203 : HFn Tryz.prog := ⟨r203, fun K => wslow Tryz.prog K r203.code, fun _ _ hK => wslow_fits hK _ (by decide +kernel)⟩
theorem c203 : chkF Tryz.prog Tryz.f203 r203 = true := by decide +kernel

/-- (*doubletake/step.frame).input -/
def r204 : RFn := ⟨2,
  .seq (
  .reg [⟨(some 4), none, (.al (.alloc (.agg [1, 1, 1] [(.sc (.int .i64 0)), (.sc (.int .i64 0)), (.sc (.int .i64 0))])))⟩] [0, 1, 4, 5]) (
  .seq (
  .seq (
  .reg [⟨(some 6), none, (.q (.mov (.t 1)))⟩,
    ⟨(some 7), none, (.q (.mov (.t 0)))⟩,
    ⟨(some 8), none, (.q (.nchk (.t 7)))⟩,
    ⟨(some 9), none, (.q (.fld 2 212 (.t 8)))⟩,
    ⟨(some 10), none, (.rd (.ld false 1 (.t 9)))⟩,
    ⟨(some 11), none, (.q (.len false (.t 10)))⟩,
    ⟨(some 12), none, (.q (.bin .geq 3 (.t 6) (.t 11)))⟩] [0, 1, 4, 5, 12]) (
  .cond (.t 12) (
   .seq (
   .reg [⟨(some 13), none, (.q (.bld (.agg [1, 1, 1] [(.sc (.int .i64 0)), (.sc (.int .i64 0)), (.sc (.int .i64 0))]) []))⟩,
     ⟨none, none, (.ac (.st 3 (.t 4) (.t 13)))⟩] [4, 5]) (
   .ret)) (
   .skip))) (
  .seq (
  .reg [⟨(some 14), none, (.q (.mov (.t 0)))⟩,
    ⟨(some 15), none, (.q (.nchk (.t 14)))⟩,
    ⟨(some 16), none, (.q (.fld 2 212 (.t 15)))⟩,
    ⟨(some 17), none, (.rd (.ld false 1 (.t 16)))⟩,
    ⟨(some 18), none, (.q (.mov (.t 1)))⟩,
    ⟨(some 19), none, (.q (.ixs 4 (.t 17) (.t 18)))⟩,
    ⟨(some 20), none, (.q (.fld 1 1 (.t 19)))⟩,
    ⟨(some 21), none, (.rd (.ld true 3 (.t 20)))⟩,
    ⟨(some 5), none, (.al (.alloc (.agg [1, 1, 1] [(.sc (.int .i64 0)), (.sc (.int .i64 0)), (.sc (.int .i64 0))])))⟩,
    ⟨none, none, (.ac (.st 3 (.t 5) (.t 21)))⟩] [4, 5]) (
  .seq (
  .draw [(0, ⟨(some 22), none, (.q (.fld 0 0 (.t 5)))⟩, 0),
    (1, ⟨(some 23), none, (.rd (.ld false 1 (.t 22)))⟩, 0),
    (2, ⟨(some 24), none, (.ac (.callf 222 [(.t 23), (.k (.int .i64 0)), (.k (.int .i64 255))]))⟩, 0),
    (3, ⟨(some 25), none, (.q (.fld 1 1 (.t 5)))⟩, 1),
    (4, ⟨(some 26), none, (.rd (.ld false 1 (.t 25)))⟩, 1),
    (5, ⟨(some 27), none, (.ac (.callf 222 [(.t 26), (.k (.int .i64 (-64))), (.k (.int .i64 64))]))⟩, 0),
    (6, ⟨(some 28), none, (.q (.fld 2 2 (.t 5)))⟩, 2),
    (7, ⟨(some 29), none, (.rd (.ld false 1 (.t 28)))⟩, 2),
    (8, ⟨(some 30), none, (.ac (.callf 222 [(.t 29), (.k (.int .i64 (-64))), (.k (.int .i64 64))]))⟩, 0),
    (9, ⟨(some 31), none, (.q (.bld (.agg [1, 1, 1] [(.sc (.int .i64 0)), (.sc (.int .i64 0)), (.sc (.int .i64 0))]) [(0, (.t 24)), (1, (.t 27)), (2, (.t 30))]))⟩, 0),
    (10, ⟨none, none, (.ac (.st 3 (.t 4) (.t 31)))⟩, 0)] [4, 5]) (
  .ret)))),
  [.cell 4 true 3], [4, 5]⟩
noncomputable def g204 : HFn Tryz.prog := ⟨r204, fun K => wslow Tryz.prog K r204.code, fun _ _ hK => wslow_fits hK _ (by decide +kernel)⟩
theorem c204 : chkF Tryz.prog Tryz.f204 r204 = true := by decide +kernel

/-- doubletake/body.Push -/
def r205 : RFn := ⟨3,
  .seq (
  .reg [⟨(some 3), none, (.al (.box (.t 0)))⟩,
    ⟨(some 6), none, (.al (.alloc (.agg [1, 1, 1, 1, 1, 1, 1, 4, 1] [(.sc (.int .i64 0)), (.sc (.int .i64 0)), (.sc (.int .i64 0)), (.sc (.int .i64 0)), (.sc (.int .i64 0)), (.sc (.int .i64 0)), (.sc (.int .i64 0)), (.arr 1 (List.replicate 4 (.sc (.int .i64 0)))), (.sc (.int .i64 0))])))⟩] [1, 2, 3, 6]) (
  .seq (
  .seq (
  .reg [⟨(some 7), none, (.rd (.ld true 12 (.t 3)))⟩,
    ⟨(some 8), none, (.ac (.callf 195 [(.t 7)]))⟩,
    ⟨(some 9), none, (.q (.un .not (.t 8)))⟩,
    ⟨(some 10), none, (.q (.mov (.t 9)))⟩,
    ⟨(some 11), (some (10, false)), (.q (.fld 0 0 (.t 3)))⟩,
    ⟨(some 12), (some (10, false)), (.rd (.ld false 1 (.t 11)))⟩,
    ⟨(some 13), (some (10, false)), (.q (.bin .eql 3 (.t 12) (.k (.int .i64 0))))⟩,
    ⟨(some 14), none, (.q (.pick (.t 10) (.k (.bool true)) (.t 13)))⟩] [1, 2, 3, 6, 14]) (
  .cond (.t 14) (
   .seq (
   .reg [⟨(some 15), none, (.q (.bld (.agg [1, 1, 1, 1, 1, 1, 1, 4, 1] [(.sc (.int .i64 0)), (.sc (.int .i64 0)), (.sc (.int .i64 0)), (.sc (.int .i64 0)), (.sc (.int .i64 0)), (.sc (.int .i64 0)), (.sc (.int .i64 0)), (.arr 1 (List.replicate 4 (.sc (.int .i64 0)))), (.sc (.int .i64 0))]) []))⟩,
     ⟨none, none, (.ac (.st 12 (.t 6) (.t 15)))⟩] [3, 6]) (
   .ret)) (
   .skip))) (
  .seq (
  .draw [(2, ⟨(some 18), none, (.q (.mov (.t 1)))⟩, 0),
    (3, ⟨(some 19), none, (.ac (.callf 106 [(.t 18), (.k (.int .i64 (-1000))), (.k (.int .i64 1000))]))⟩, 0),
    (0, ⟨(some 16), none, (.q (.fld 4 4 (.t 3)))⟩, 1),
    (1, ⟨(some 17), none, (.rd (.ld false 1 (.t 16)))⟩, 1),
    (4, ⟨(some 20), none, (.q (.bin .add 3 (.t 17) (.t 19)))⟩, 0),
    (5, ⟨(some 21), none, (.ac (.callf 106 [(.t 20), (.k (.int .i64 (-64))), (.k (.int .i64 64))]))⟩, 0),
    (6, ⟨(some 22), none, (.q (.fld 4 4 (.t 3)))⟩, 0),
    (7, ⟨none, none, (.ac (.st 1 (.t 22) (.t 21)))⟩, 0)] [2, 3, 6]) (
  .seq (
  .draw [(2, ⟨(some 25), none, (.q (.mov (.t 2)))⟩, 0),
    (3, ⟨(some 26), none, (.ac (.callf 106 [(.t 25), (.k (.int .i64 (-1000))), (.k (.int .i64 1000))]))⟩, 0),
    (0, ⟨(some 23), none, (.q (.fld 5 5 (.t 3)))⟩, 1),
    (1, ⟨(some 24), none, (.rd (.ld false 1 (.t 23)))⟩, 1),
    (4, ⟨(some 27), none, (.q (.bin .add 3 (.t 24) (.t 26)))⟩, 0),
    (5, ⟨(some 28), none, (.ac (.callf 106 [(.t 27), (.k (.int .i64 (-64))), (.k (.int .i64 64))]))⟩, 0),
    (6, ⟨(some 29), none, (.q (.fld 5 5 (.t 3)))⟩, 0),
    (7, ⟨none, none, (.ac (.st 1 (.t 29) (.t 28)))⟩, 0)] [3, 6]) (
  .seq (
  .reg [⟨(some 30), none, (.rd (.ld true 12 (.t 3)))⟩,
    ⟨none, none, (.ac (.st 12 (.t 6) (.t 30)))⟩] [3, 6]) (
  .ret))))),
  [.cell 6 true 12], [3, 6]⟩
noncomputable def g205 : HFn Tryz.prog := ⟨r205, fun K => wslow Tryz.prog K r205.code, fun _ _ hK => wslow_fits hK _ (by decide +kernel)⟩
theorem c205 : chkF Tryz.prog Tryz.f205 r205 = true := by decide +kernel

/-! (*doubletake/step.frame).room -/
def o206n0 : List RI := [⟨(some 2), none, (.q (.mov (.k (.int .i64 0))))⟩]
noncomputable def b206n0 (K : KTC) (k : KS) (a0 : AV) (c : KN) (p : KV) : Kr :=
  c [(0, a0)] k
theorem e206n0 (K : KTC) (k : KS) (a0 : AV) (c : KN) (p : KV) : b206n0 K k a0 c p = wReg Tryz.prog K [0] o206n0 [(0, a0)] k c p := by unfold b206n0; kernel_rfl
noncomputable def s206n0 (K : KTC) (e : Env) (k : KS) (c : KN) (p : KV) : Kr := gt e 0 fun a0 => b206n0 K k a0 c p
theorem p206n0 (K : KTC) (K' : KT) (hK : CSound K K') : FitsC Tryz.prog K' (.reg (s206n0 K)) (.reg o206n0 [0]) := fun e k c p y h => by
  obtain ⟨a0, h0, h⟩ := gt_some h
  exact wreg_fit hK (by decide +kernel) (keep_cons h0 (keep_nil)) (e206n0 K k a0 c p) h
def o206n1 : List RI := [⟨(some 3), none, (.q (.mov (.k (.int .i64 0))))⟩]
noncomputable def b206n1 (K : KTC) (k : KS) (a0 : AV) (c : KN) (p : KV) : Kr :=
  c [(0, a0), (3, (.sc (.int .i64 0)))] k
theorem e206n1 (K : KTC) (k : KS) (a0 : AV) (c : KN) (p : KV) : b206n1 K k a0 c p = wReg Tryz.prog K [0, 3] o206n1 [(0, a0)] k c p := by unfold b206n1; kernel_rfl
noncomputable def s206n1 (K : KTC) (e : Env) (k : KS) (c : KN) (p : KV) : Kr := gt e 0 fun a0 => b206n1 K k a0 c p
theorem p206n1 (K : KTC) (K' : KT) (hK : CSound K K') : FitsC Tryz.prog K' (.reg (s206n1 K)) (.reg o206n1 [0, 3]) := fun e k c p y h => by
  obtain ⟨a0, h0, h⟩ := gt_some h
  exact wreg_fit hK (by decide +kernel) (keep_cons h0 (keep_nil)) (e206n1 K k a0 c p) h
def o206n2 : List RI := [⟨(some 6), none, (.q (.mov (.t 0)))⟩, ⟨(some 7), none, (.q (.nchk (.t 6)))⟩, ⟨(some 8), none, (.q (.fld 1 10 (.t 7)))⟩, ⟨(some 9), none, (.q (.fld 2 2 (.t 8)))⟩, ⟨(some 10), none, (.rd (.ld true 192 (.t 9)))⟩, ⟨(some 11), none, (.q (.mov (.k (.int .i64 0))))⟩]
noncomputable def b206n2 (K : KTC) (k : KS) (a0 a3 : AV) (c : KN) (p : KV) : Kr :=
  xNchk a0 fun v0 =>
  xFld 1 10 v0 fun v1 =>
  xFld 2 2 v1 fun v2 =>
  xLd k.t true 192 v2 fun v3 =>
  c [(0, a0), (3, a3), (10, v3), (11, (.sc (.int .i64 0)))] k
theorem e206n2 (K : KTC) (k : KS) (a0 a3 : AV) (c : KN) (p : KV) : b206n2 K k a0 a3 c p = wReg Tryz.prog K [0, 3, 10, 11] o206n2 [(0, a0), (3, a3)] k c p := by unfold b206n2; simp only [xLd_eq, xFld_eq, xNchk_eq]; kernel_rfl
noncomputable def s206n2 (K : KTC) (e : Env) (k : KS) (c : KN) (p : KV) : Kr := gt e 0 fun a0 => gt e 3 fun a3 => b206n2 K k a0 a3 c p
theorem p206n2 (K : KTC) (K' : KT) (hK : CSound K K') : FitsC Tryz.prog K' (.reg (s206n2 K)) (.reg o206n2 [0, 3, 10, 11]) := fun e k c p y h => by
  obtain ⟨a0, h0, h⟩ := gt_some h
  obtain ⟨a3, h3, h⟩ := gt_some h
  exact wreg_fit hK (by decide +kernel) (keep_cons h0 (keep_cons h3 (keep_nil))) (e206n2 K k a0 a3 c p) h
def o206n3 : List RI := [⟨(some 12), none, (.q (.bin .lss 3 (.t 11) (.k (.int .i64 16))))⟩]
noncomputable def b206n3 (K : KTC) (k : KS) (a11 a0 a3 a10 : AV) (x : Env) (c : KN) (p : KV) : Kr :=
  xLss 3 a11 (.sc (.int .i64 16)) fun v0 =>
  c (Env.keep ([(0, a0), (3, a3), (10, a10), (11, a11), (12, v0)] ++ x) [0, 3, 5, 10, 11, 12]) k
theorem e206n3 (K : KTC) (k : KS) (a11 a0 a3 a10 : AV) (x : Env) (c : KN) (p : KV) : b206n3 K k a11 a0 a3 a10 x c p = wReg Tryz.prog K [0, 3, 5, 10, 11, 12] o206n3 ([(11, a11), (0, a0), (3, a3), (10, a10)] ++ x) k c p := by unfold b206n3; simp only [xLss_eq]; kernel_rfl
noncomputable def s206n3 (K : KTC) (e : Env) (k : KS) (c : KN) (p : KV) : Kr := gt e 11 fun a11 => gt e 0 fun a0 => gt e 3 fun a3 => gt e 10 fun a10 => b206n3 K k a11 a0 a3 a10 (e.keep [5]) c p
theorem p206n3 (K : KTC) (K' : KT) (hK : CSound K K') : FitsC Tryz.prog K' (.reg (s206n3 K)) (.reg o206n3 [0, 3, 5, 10, 11, 12]) := fun e k c p y h => by
  obtain ⟨a11, h11, h⟩ := gt_some h
  obtain ⟨a0, h0, h⟩ := gt_some h
  obtain ⟨a3, h3, h⟩ := gt_some h
  obtain ⟨a10, h10, h⟩ := gt_some h
  exact wreg_fit hK (by decide +kernel) (keep_cons h11 (keep_cons h0 (keep_cons h3 (keep_cons h10 (rfl))))) (e206n3 K k a11 a0 a3 a10 (e.keep [5]) c p) h
def o206n4 : List RI := [⟨(some 13), none, (.q (.ixv 16 12 true (.t 10) (.t 11)))⟩, ⟨(some 5), none, (.al (.alloc (.agg [1, 1, 1, 1, 1, 1, 1, 4, 1] [(.sc (.int .i64 0)), (.sc (.int .i64 0)), (.sc (.int .i64 0)), (.sc (.int .i64 0)), (.sc (.int .i64 0)), (.sc (.int .i64 0)), (.sc (.int .i64 0)), (.arr 1 (List.replicate 4 (.sc (.int .i64 0)))), (.sc (.int .i64 0))])))⟩, ⟨none, none, (.ac (.st 12 (.t 5) (.t 13)))⟩]
noncomputable def b206n4 (K : KTC) (k : KS) (a10 a11 a0 a3 : AV) (c : KN) (p : KV) : Kr :=
  (kQ Tryz.prog [(10, a10), (11, a11)] (.ixv 16 12 true (.t 10) (.t 11))).bind fun v0 =>
  xAlloc (.agg [1, 1, 1, 1, 1, 1, 1, 4, 1] [(.sc (.int .i64 0)), (.sc (.int .i64 0)), (.sc (.int .i64 0)), (.sc (.int .i64 0)), (.sc (.int .i64 0)), (.sc (.int .i64 0)), (.sc (.int .i64 0)), (.arr 1 (List.replicate 4 (.sc (.int .i64 0)))), (.sc (.int .i64 0))]) k fun v1 k1 =>
  pCall (kA (fun _ _ _ => none) [(5, v1), (13, v0)] k1 (.st 12 (.t 5) (.t 13))) (fun v2 k2 =>
  c [(0, a0), (3, a3), (5, v1), (10, a10), (11, a11)] k2) (p)
theorem e206n4 (K : KTC) (k : KS) (a10 a11 a0 a3 : AV) (c : KN) (p : KV) : b206n4 K k a10 a11 a0 a3 c p = wReg Tryz.prog K [0, 3, 5, 10, 11] o206n4 [(10, a10), (11, a11), (0, a0), (3, a3)] k c p := by unfold b206n4; simp only [xAlloc_eq]; kernel_rfl
noncomputable def s206n4 (K : KTC) (e : Env) (k : KS) (c : KN) (p : KV) : Kr := gt e 10 fun a10 => gt e 11 fun a11 => gt e 0 fun a0 => gt e 3 fun a3 => b206n4 K k a10 a11 a0 a3 c p
theorem p206n4 (K : KTC) (K' : KT) (hK : CSound K K') : FitsC Tryz.prog K' (.reg (s206n4 K)) (.reg o206n4 [0, 3, 5, 10, 11]) := fun e k c p y h => by
  obtain ⟨a10, h10, h⟩ := gt_some h
  obtain ⟨a11, h11, h⟩ := gt_some h
  obtain ⟨a0, h0, h⟩ := gt_some h
  obtain ⟨a3, h3, h⟩ := gt_some h
  exact wreg_fit hK (by decide +kernel) (keep_cons h10 (keep_cons h11 (keep_cons h0 (keep_cons h3 (keep_nil))))) (e206n4 K k a10 a11 a0 a3 c p) h
def o206n5 : List RI := [⟨(some 14), none, (.q (.fld 0 0 (.t 5)))⟩, ⟨(some 15), none, (.rd (.ld false 1 (.t 14)))⟩, ⟨(some 16), none, (.q (.bin .eql 3 (.t 15) (.k (.int .i64 0))))⟩]
noncomputable def b206n5 (K : KTC) (k : KS) (a5 a0 a3 a10 a11 : AV) (c : KN) (p : KV) : Kr :=
  xFld 0 0 a5 fun v0 =>
  xLd k.t false 1 v0 fun v1 =>
  xEql 3 v1 (.sc (.int .i64 0)) fun v2 =>
  c [(0, a0), (3, a3), (5, a5), (10, a10), (11, a11), (16, v2)] k
theorem e206n5 (K : KTC) (k : KS) (a5 a0 a3 a10 a11 : AV) (c : KN) (p : KV) : b206n5 K k a5 a0 a3 a10 a11 c p = wReg Tryz.prog K [0, 3, 5, 10, 11, 16] o206n5 [(5, a5), (0, a0), (3, a3), (10, a10), (11, a11)] k c p := by unfold b206n5; simp only [xEql_eq, xLd_eq, xFld_eq]; kernel_rfl
noncomputable def s206n5 (K : KTC) (e : Env) (k : KS) (c : KN) (p : KV) : Kr := gt e 5 fun a5 => gt e 0 fun a0 => gt e 3 fun a3 => gt e 10 fun a10 => gt e 11 fun a11 => b206n5 K k a5 a0 a3 a10 a11 c p
theorem p206n5 (K : KTC) (K' : KT) (hK : CSound K K') : FitsC Tryz.prog K' (.reg (s206n5 K)) (.reg o206n5 [0, 3, 5, 10, 11, 16]) := fun e k c p y h => by
  obtain ⟨a5, h5, h⟩ := gt_some h
  obtain ⟨a0, h0, h⟩ := gt_some h
  obtain ⟨a3, h3, h⟩ := gt_some h
  obtain ⟨a10, h10, h⟩ := gt_some h
  obtain ⟨a11, h11, h⟩ := gt_some h
  exact wreg_fit hK (by decide +kernel) (keep_cons h5 (keep_cons h0 (keep_cons h3 (keep_cons h10 (keep_cons h11 (keep_nil)))))) (e206n5 K k a5 a0 a3 a10 a11 c p) h
def o206n6 : List RI := [⟨(some 17), none, (.q (.mov (.t 3)))⟩, ⟨(some 18), none, (.q (.bin .add 3 (.t 17) (.k (.int .i64 1))))⟩, ⟨(some 3), none, (.q (.mov (.t 18)))⟩]
noncomputable def b206n6 (K : KTC) (k : KS) (a3 a0 a5 a10 a11 : AV) (c : KN) (p : KV) : Kr :=
  xAdd 3 a3 (.sc (.int .i64 1)) fun v0 =>
  c [(0, a0), (3, v0), (5, a5), (10, a10), (11, a11)] k
theorem e206n6 (K : KTC) (k : KS) (a3 a0 a5 a10 a11 : AV) (c : KN) (p : KV) : b206n6 K k a3 a0 a5 a10 a11 c p = wReg Tryz.prog K [0, 3, 5, 10, 11] o206n6 [(3, a3), (0, a0), (5, a5), (10, a10), (11, a11)] k c p := by unfold b206n6; simp only [xAdd_eq]; kernel_rfl
noncomputable def s206n6 (K : KTC) (e : Env) (k : KS) (c : KN) (p : KV) : Kr := gt e 3 fun a3 => gt e 0 fun a0 => gt e 5 fun a5 => gt e 10 fun a10 => gt e 11 fun a11 => b206n6 K k a3 a0 a5 a10 a11 c p
theorem p206n6 (K : KTC) (K' : KT) (hK : CSound K K') : FitsC Tryz.prog K' (.reg (s206n6 K)) (.reg o206n6 [0, 3, 5, 10, 11]) := fun e k c p y h => by
  obtain ⟨a3, h3, h⟩ := gt_some h
  obtain ⟨a0, h0, h⟩ := gt_some h
  obtain ⟨a5, h5, h⟩ := gt_some h
  obtain ⟨a10, h10, h⟩ := gt_some h
  obtain ⟨a11, h11, h⟩ := gt_some h
  exact wreg_fit hK (by decide +kernel) (keep_cons h3 (keep_cons h0 (keep_cons h5 (keep_cons h10 (keep_cons h11 (keep_nil)))))) (e206n6 K k a3 a0 a5 a10 a11 c p) h
def o206n7 : List RI := [⟨(some 19), none, (.q (.bin .add 3 (.t 11) (.k (.int .i64 1))))⟩, ⟨(some 11), none, (.q (.mov (.t 19)))⟩]
noncomputable def b206n7 (K : KTC) (k : KS) (a11 a0 a3 a5 a10 : AV) (c : KN) (p : KV) : Kr :=
  xAdd 3 a11 (.sc (.int .i64 1)) fun v0 =>
  c [(0, a0), (3, a3), (5, a5), (10, a10), (11, v0)] k
theorem e206n7 (K : KTC) (k : KS) (a11 a0 a3 a5 a10 : AV) (c : KN) (p : KV) : b206n7 K k a11 a0 a3 a5 a10 c p = wReg Tryz.prog K [0, 3, 5, 10, 11] o206n7 [(11, a11), (0, a0), (3, a3), (5, a5), (10, a10)] k c p := by unfold b206n7; simp only [xAdd_eq]; kernel_rfl
noncomputable def s206n7 (K : KTC) (e : Env) (k : KS) (c : KN) (p : KV) : Kr := gt e 11 fun a11 => gt e 0 fun a0 => gt e 3 fun a3 => gt e 5 fun a5 => gt e 10 fun a10 => b206n7 K k a11 a0 a3 a5 a10 c p
theorem p206n7 (K : KTC) (K' : KT) (hK : CSound K K') : FitsC Tryz.prog K' (.reg (s206n7 K)) (.reg o206n7 [0, 3, 5, 10, 11]) := fun e k c p y h => by
  obtain ⟨a11, h11, h⟩ := gt_some h
  obtain ⟨a0, h0, h⟩ := gt_some h
  obtain ⟨a3, h3, h⟩ := gt_some h
  obtain ⟨a5, h5, h⟩ := gt_some h
  obtain ⟨a10, h10, h⟩ := gt_some h
  exact wreg_fit hK (by decide +kernel) (keep_cons h11 (keep_cons h0 (keep_cons h3 (keep_cons h5 (keep_cons h10 (keep_nil)))))) (e206n7 K k a11 a0 a3 a5 a10 c p) h
def o206n8 : List RI := [⟨(some 20), none, (.q (.mov (.t 3)))⟩, ⟨(some 21), none, (.q (.mov (.t 0)))⟩, ⟨(some 22), none, (.q (.nchk (.t 21)))⟩, ⟨(some 23), none, (.q (.fld 3 213 (.t 22)))⟩, ⟨(some 24), none, (.rd (.ld false 1 (.t 23)))⟩, ⟨(some 25), none, (.q (.len false (.t 24)))⟩, ⟨(some 26), none, (.q (.bin .sub 3 (.t 20) (.t 25)))⟩, ⟨(some 2), none, (.q (.mov (.t 26)))⟩]
noncomputable def b206n8 (K : KTC) (k : KS) (a3 a0 : AV) (x : Env) (c : KN) (p : KV) : Kr :=
  xLdf k.t 3 213 false 1 a0 fun v0 =>
  xLen v0 fun v1 =>
  xSub 3 a3 v1 fun v2 =>
  c (Env.keep ([(2, v2)] ++ x) [2, 5]) k
theorem e206n8 (K : KTC) (k : KS) (a3 a0 : AV) (x : Env) (c : KN) (p : KV) : b206n8 K k a3 a0 x c p = wReg Tryz.prog K [2, 5] o206n8 ([(3, a3), (0, a0)] ++ x) k c p := by unfold b206n8; simp only [xSub_eq, xLen_eq, xLdf_eq]; kernel_rfl
noncomputable def s206n8 (K : KTC) (e : Env) (k : KS) (c : KN) (p : KV) : Kr := gt e 3 fun a3 => gt e 0 fun a0 => b206n8 K k a3 a0 (e.keep [5]) c p
theorem p206n8 (K : KTC) (K' : KT) (hK : CSound K K') : FitsC Tryz.prog K' (.reg (s206n8 K)) (.reg o206n8 [2, 5]) := fun e k c p y h => by
  obtain ⟨a3, h3, h⟩ := gt_some h
  obtain ⟨a0, h0, h⟩ := gt_some h
  exact wreg_fit hK (by decide +kernel) (keep_cons h3 (keep_cons h0 (rfl))) (e206n8 K k a3 a0 (e.keep [5]) c p) h
def r206 : RFn := ⟨1, .seq (.reg o206n0 [0]) (.seq (.reg o206n1 [0, 3]) (.seq (.seq (.reg o206n2 [0, 3, 10, 11]) (.block 0 (.loop [0, 3, 10, 11] (.free [5] (.seq (.reg o206n3 [0, 3, 5, 10, 11, 12]) (.seq (.cond (.t 12) (.skip) (.exit 0)) (.seq (.block 1 (.seq (.reg o206n4 [0, 3, 5, 10, 11]) (.seq (.reg o206n5 [0, 3, 5, 10, 11, 16]) (.cond (.t 16) (.reg o206n6 [0, 3, 5, 10, 11]) (.skip))))) (.reg o206n7 [0, 3, 5, 10, 11])))))))) (.seq (.reg o206n8 [2, 5]) (.ret)))), [.tmp 2], [5]⟩
noncomputable def q206 (K : KTC) : FK := .seq (.reg (s206n0 K)) (.seq (.reg (s206n1 K)) (.seq (.seq (.reg (s206n2 K)) (.block 0 (.loop [0, 3, 10, 11] (.free [5] (.seq (.reg (s206n3 K)) (.seq (.cond (.t 12) (.skip) (.exit 0)) (.seq (.block 1 (.seq (.reg (s206n4 K)) (.seq (.reg (s206n5 K)) (.cond (.t 16) (.reg (s206n6 K)) (.skip))))) (.reg (s206n7 K))))))))) (.seq (.reg (s206n8 K)) (.ret))))
theorem ok206 (K : KTC) (K' : KT) (hK : CSound K K') : FitsC Tryz.prog K' (q206 K) r206.code := hs (p206n0 K _ hK) (hs (p206n1 K _ hK) (hs (hs (p206n2 K _ hK) (hb (hl (by decide +kernel) (hf (hs (p206n3 K _ hK) (hs (hc (hk) (hx)) (hs (hb (hs (p206n4 K _ hK) (hs (p206n5 K _ hK) (hc (p206n6 K _ hK) (hk))))) (p206n7 K _ hK)))))))) (hs (p206n8 K _ hK) (hr))))
noncomputable def g206 : HFn Tryz.prog := ⟨r206, q206, ok206⟩
theorem c206 : chkF Tryz.prog Tryz.f206 r206 = true := by decide +kernel

/-- doubletake/rule.Run -/
def r207 : RFn := ⟨2,
  .seq (
  .reg [⟨(some 3), none, (.al (.box (.t 1)))⟩,
    ⟨(some 4), none, (.al (.alloc (.agg [12, 3, 1, 1, 1] [(.agg [1, 1, 1, 1, 1, 1, 1, 4, 1] [(.sc (.int .i64 0)), (.sc (.int .i64 0)), (.sc (.int .i64 0)), (.sc (.int .i64 0)), (.sc (.int .i64 0)), (.sc (.int .i64 0)), (.sc (.int .i64 0)), (.arr 1 (List.replicate 4 (.sc (.int .i64 0)))), (.sc (.int .i64 0))]), (.agg [1, 1, 1] [(.sc (.int .i64 0)), (.sc (.int .i64 0)), (.sc (.int .i64 0))]), (.sc (.int .u64 0)), (.sc (.int .i64 0)), (.slice none 0)])))⟩,
    ⟨(some 5), none, (.al (.alloc (.agg [1, 1] [(.sc (.int .i64 0)), (.sc (.int .i64 0))])))⟩,
    ⟨(some 6), none, (.q (.mov (.k (.bool false))))⟩] [0, 3, 4, 5, 8]) (
  .seq (
  .seq (
  .reg [⟨(some 10), none, (.q (.fld 0 0 (.t 3)))⟩,
    ⟨(some 11), none, (.rd (.ld true 12 (.t 10)))⟩,
    ⟨(some 12), none, (.ac (.callf 195 [(.t 11)]))⟩,
    ⟨(some 13), none, (.q (.un .not (.t 12)))⟩,
    ⟨(some 14), none, (.q (.mov (.t 13)))⟩,
    ⟨(some 15), (some (14, false)), (.q (.fld 0 0 (.t 3)))⟩,
    ⟨(some 16), (some (14, false)), (.q (.fld 0 0 (.t 15)))⟩,
    ⟨(some 17), (some (14, false)), (.rd (.ld false 1 (.t 16)))⟩,
    ⟨(some 18), (some (14, false)), (.q (.bin .eql 3 (.t 17) (.k (.int .i64 0))))⟩,
    ⟨(some 19), none, (.q (.pick (.t 14) (.k (.bool true)) (.t 18)))⟩] [0, 3, 4, 5, 8, 19]) (
  .cond (.t 19) (
   .seq (
   .reg [⟨(some 20), none, (.rd (.ld true 18 (.t 3)))⟩,
     ⟨(some 21), none, (.ac (.callf 223 [(.t 20)]))⟩,
     ⟨(some 22), none, (.q (.bld (.agg [1, 1] [(.sc (.int .i64 0)), (.sc (.int .i64 0))]) []))⟩,
     ⟨none, none, (.ac (.st 18 (.t 4) (.t 21)))⟩,
     ⟨none, none, (.ac (.st 2 (.t 5) (.t 22)))⟩,
     ⟨(some 6), none, (.q (.mov (.k (.bool false))))⟩] [3, 4, 5, 6, 8]) (
   .ret)) (
   .skip))) (
  .seq (
  .reg [⟨(some 23), none, (.rd (.ld true 18 (.t 3)))⟩,
    ⟨(some 24), none, (.ac (.callf 223 [(.t 23)]))⟩,
    ⟨(some 25), none, (.q (.mov (.t 0)))⟩,
    ⟨(some 26), none, (.q (.bld (.agg [18, 1, 1] [(.agg [12, 3, 1, 1, 1] [(.agg [1, 1, 1, 1, 1, 1, 1, 4, 1] [(.sc (.int .i64 0)), (.sc (.int .i64 0)), (.sc (.int .i64 0)), (.sc (.int .i64 0)), (.sc (.int .i64 0)), (.sc (.int .i64 0)), (.sc (.int .i64 0)), (.arr 1 (List.replicate 4 (.sc (.int .i64 0)))), (.sc (.int .i64 0))]), (.agg [1, 1, 1] [(.sc (.int .i64 0)), (.sc (.int .i64 0)), (.sc (.int .i64 0))]), (.sc (.int .u64 0)), (.sc (.int .i64 0)), (.slice none 0)]), (.slice none 0), (.sc (.int .i64 0))]) [(0, (.t 24)), (1, (.t 25))]))⟩,
    ⟨(some 27), none, (.al (.box (.t 26)))⟩,
    ⟨(some 7), none, (.q (.mov (.t 27)))⟩] [3, 4, 5, 7]) (
  .seq (
  .seq (
  .reg [⟨(some 29), none, (.q (.mov (.t 7)))⟩,
    ⟨(some 30), none, (.q (.mkf 224 [(.t 29)] []))⟩,
    ⟨(some 31), none, (.ac (.callf 197 [(.t 30)]))⟩,
    ⟨(some 28), none, (.q (.mov (.t 31)))⟩,
    ⟨(some 32), none, (.q (.ext 0 (.t 28)))⟩,
    ⟨(some 33), none, (.q (.ext 1 (.t 28)))⟩,
    ⟨(some 8), none, (.al (.alloc (.agg [1, 1] [(.sc (.int .i64 0)), (.sc (.int .i64 0))])))⟩,
    ⟨none, none, (.ac (.st 2 (.t 8) (.t 32)))⟩,
    ⟨(some 9), none, (.q (.mov (.t 33)))⟩] [3, 4, 5, 7, 8, 9]) (
  .seq (
  .reg [⟨(some 34), none, (.q (.mov (.t 9)))⟩] [3, 4, 5, 7, 8, 34]) (
  .cond (.t 34) (
   .seq (
   .draw [(0, ⟨(some 35), none, (.rd (.ld true 18 (.t 3)))⟩, 0),
     (1, ⟨(some 36), none, (.ac (.callf 223 [(.t 35)]))⟩, 0),
     (3, ⟨none, none, (.ac (.st 18 (.t 4) (.t 36)))⟩, 0),
     (2, ⟨(some 37), none, (.rd (.ld true 2 (.t 8)))⟩, 2),
     (4, ⟨none, none, (.ac (.st 2 (.t 5) (.t 37)))⟩, 0),
     (5, ⟨(some 6), none, (.q (.mov (.k (.bool false))))⟩, 0)] [3, 4, 5, 6, 8]) (
   .ret)) (
   .skip)))) (
  .seq (
  .reg [⟨(some 38), none, (.q (.mov (.t 7)))⟩,
    ⟨(some 39), none, (.q (.nchk (.t 38)))⟩,
    ⟨(some 40), none, (.q (.fld 0 0 (.t 39)))⟩,
    ⟨(some 41), none, (.rd (.ld true 18 (.t 40)))⟩,
    ⟨(some 42), none, (.q (.bld (.agg [1, 1] [(.sc (.int .i64 0)), (.sc (.int .i64 0))]) []))⟩,
    ⟨none, none, (.ac (.st 18 (.t 4) (.t 41)))⟩,
    ⟨none, none, (.ac (.st 2 (.t 5) (.t 42)))⟩,
    ⟨(some 6), none, (.q (.mov (.k (.bool true))))⟩] [3, 4, 5, 6, 8]) (
  .ret))))),
  [.cell 4 true 18, .cell 5 true 2, .tmp 6], [3, 4, 5, 8]⟩
noncomputable def g207 : HFn Tryz.prog := ⟨r207, fun K => wslow Tryz.prog K r207.code, fun _ _ hK => wslow_fits hK _ (by decide +kernel)⟩
theorem c207 : chkF Tryz.prog Tryz.f207 r207 = true := by decide +kernel

/-- doubletake/body.bounce -/
def r208 : RFn := ⟨2,
  .seq (
  .reg [⟨(some 4), none, (.q (.mov (.k (.int .i64 0))))⟩,
    ⟨(some 5), none, (.q (.mov (.k (.int .i64 0))))⟩] [0, 1]) (
  .seq (
  .seq (
  .reg [⟨(some 7), none, (.q (.mov (.t 0)))⟩,
    ⟨(some 8), none, (.ac (.callf 106 [(.t 7), (.k (.int .i64 0)), (.k (.int .i64 4095))]))⟩,
    ⟨(some 6), none, (.q (.mov (.t 8)))⟩] [0, 1, 6]) (
  .seq (
  .reg [⟨(some 9), none, (.q (.mov (.t 6)))⟩,
    ⟨(some 10), none, (.q (.mov (.t 0)))⟩,
    ⟨(some 11), none, (.q (.bin .neq 3 (.t 9) (.t 10)))⟩] [0, 1, 6, 11]) (
  .cond (.t 11) (
   .seq (
   .reg [⟨(some 12), none, (.q (.mov (.t 6)))⟩,
     ⟨(some 13), none, (.q (.mov (.t 1)))⟩,
     ⟨(some 14), none, (.q (.un .neg (.t 13)))⟩,
     ⟨(some 4), none, (.q (.mov (.t 12)))⟩,
     ⟨(some 5), none, (.q (.mov (.t 14)))⟩] [4, 5]) (
   .ret)) (
   .skip)))) (
  .seq (
  .reg [⟨(some 15), none, (.q (.mov (.t 0)))⟩,
    ⟨(some 16), none, (.q (.mov (.t 1)))⟩,
    ⟨(some 4), none, (.q (.mov (.t 15)))⟩,
    ⟨(some 5), none, (.q (.mov (.t 16)))⟩] [4, 5]) (
  .ret))),
  [.tmp 4, .tmp 5], []⟩
noncomputable def g208 : HFn Tryz.prog := ⟨r208, fun K => wslow Tryz.prog K r208.code, fun _ _ hK => wslow_fits hK _ (by decide +kernel)⟩
theorem c208 : chkF Tryz.prog Tryz.f208 r208 = true := by decide +kernel

/-! doubletake/body.within -/
def o209n0 : List RI := [⟨(some 6), none, (.q (.mov (.k (.bool false))))⟩]
noncomputable def b209n0 (K : KTC) (k : KS) (a0 a1 a2 : AV) (c : KN) (p : KV) : Kr :=
  c [(0, a0), (1, a1), (2, a2)] k
theorem e209n0 (K : KTC) (k : KS) (a0 a1 a2 : AV) (c : KN) (p : KV) : b209n0 K k a0 a1 a2 c p = wReg Tryz.prog K [0, 1, 2] o209n0 [(0, a0), (1, a1), (2, a2)] k c p := by unfold b209n0; kernel_rfl
noncomputable def s209n0 (K : KTC) (e : Env) (k : KS) (c : KN) (p : KV) : Kr := gt e 0 fun a0 => gt e 1 fun a1 => gt e 2 fun a2 => b209n0 K k a0 a1 a2 c p
theorem p209n0 (K : KTC) (K' : KT) (hK : CSound K K') : FitsC Tryz.prog K' (.reg (s209n0 K)) (.reg o209n0 [0, 1, 2]) := fun e k c p y h => by
  obtain ⟨a0, h0, h⟩ := gt_some h
  obtain ⟨a1, h1, h⟩ := gt_some h
  obtain ⟨a2, h2, h⟩ := gt_some h
  exact wreg_fit hK (by decide +kernel) (keep_cons h0 (keep_cons h1 (keep_cons h2 (keep_nil)))) (e209n0 K k a0 a1 a2 c p) h
def o209n1 : List RI := [⟨(some 7), none, (.q (.mov (.t 0)))⟩, ⟨(some 8), none, (.q (.mov (.t 1)))⟩, ⟨(some 9), none, (.q (.bin .geq 3 (.t 7) (.t 8)))⟩, ⟨(some 10), none, (.q (.mov (.t 9)))⟩, ⟨(some 11), (some (10, true)), (.q (.mov (.t 0)))⟩, ⟨(some 12), (some (10, true)), (.q (.mov (.t 2)))⟩, ⟨(some 13), (some (10, true)), (.q (.bin .leq 3 (.t 11) (.t 12)))⟩, ⟨(some 14), none, (.q (.pick (.t 10) (.t 13) (.k (.bool false))))⟩, ⟨(some 6), none, (.q (.mov (.t 14)))⟩]
def r209 : RFn := ⟨3, .seq (.reg o209n0 [0, 1, 2]) (.seq (.reg o209n1 [6]) (.ret)), [.tmp 6], []⟩
noncomputable def q209 (K : KTC) : FK := .seq (.reg (s209n0 K)) (.seq (.reg fun e k c p => wReg Tryz.prog K [6] o209n1 e k c p) (.ret))
theorem ok209 (K : KTC) (K' : KT) (hK : CSound K K') : FitsC Tryz.prog K' (q209 K) r209.code := hs (p209n0 K _ hK) (hs (wslow_reg hK) (hr))
noncomputable def g209 : HFn Tryz.prog := ⟨r209, q209, ok209⟩
theorem c209 : chkF Tryz.prog Tryz.f209 r209 = true := by decide +kernel

/-- doubletake/body.Hit -/
def r210 : RFn := ⟨2,
  .seq (
  .reg [⟨(some 2), none, (.al (.box (.t 0)))⟩,
    ⟨(some 3), none, (.al (.box (.t 1)))⟩,
    ⟨(some 4), none, (.q (.mov (.k (.bool false))))⟩] [2, 3]) (
  .seq (
  .seq (
  .reg [⟨(some 5), none, (.q (.fld 0 0 (.t 2)))⟩,
    ⟨(some 6), none, (.rd (.ld false 1 (.t 5)))⟩,
    ⟨(some 7), none, (.q (.bin .eql 3 (.t 6) (.k (.int .i64 2))))⟩] [2, 3, 7]) (
  .cond (.t 7) (
   .reg [⟨(some 8), none, (.rd (.ld true 12 (.t 3)))⟩,
     ⟨(some 9), none, (.rd (.ld true 12 (.t 2)))⟩,
     ⟨none, none, (.ac (.st 12 (.t 2) (.t 8)))⟩,
     ⟨none, none, (.ac (.st 12 (.t 3) (.t 9)))⟩] [2, 3]) (
   .skip))) (
  .seq (
  .reg [⟨(some 10), none, (.rd (.ld true 12 (.t 2)))⟩,
    ⟨(some 11), none, (.ac (.callf 195 [(.t 10)]))⟩,
    ⟨(some 12), none, (.q (.mov (.t 11)))⟩,
    ⟨(some 13), (some (12, true)), (.rd (.ld true 12 (.t 3)))⟩,
    ⟨(some 14), (some (12, true)), (.ac (.callf 195 [(.t 13)]))⟩,
    ⟨(some 15), none, (.q (.pick (.t 12) (.t 14) (.k (.bool false))))⟩,
    ⟨(some 16), none, (.q (.mov (.t 15)))⟩,
    ⟨(some 17), (some (16, true)), (.q (.fld 0 0 (.t 2)))⟩,
    ⟨(some 18), (some (16, true)), (.rd (.ld false 1 (.t 17)))⟩,
    ⟨(some 19), (some (16, true)), (.q (.bin .eql 3 (.t 18) (.k (.int .i64 1))))⟩,
    ⟨(some 20), none, (.q (.pick (.t 16) (.t 19) (.k (.bool false))))⟩,
    ⟨(some 21), none, (.q (.mov (.t 20)))⟩,
    ⟨(some 22), (some (21, true)), (.q (.fld 0 0 (.t 3)))⟩,
    ⟨(some 23), (some (21, true)), (.rd (.ld false 1 (.t 22)))⟩,
    ⟨(some 24), (some (21, true)), (.q (.bin .eql 3 (.t 23) (.k (.int .i64 2))))⟩,
    ⟨(some 25), none, (.q (.pick (.t 21) (.t 24) (.k (.bool false))))⟩,
    ⟨(some 26), none, (.q (.mov (.t 25)))⟩,
    ⟨(some 27), (some (26, true)), (.q (.fld 1 1 (.t 2)))⟩,
    ⟨(some 28), (some (26, true)), (.rd (.ld false 1 (.t 27)))⟩,
    ⟨(some 29), (some (26, true)), (.q (.fld 1 1 (.t 3)))⟩,
    ⟨(some 30), (some (26, true)), (.rd (.ld false 1 (.t 29)))⟩,
    ⟨(some 31), (some (26, true)), (.q (.bin .neq 3 (.t 28) (.t 30)))⟩,
    ⟨(some 32), none, (.q (.pick (.t 26) (.t 31) (.k (.bool false))))⟩,
    ⟨(some 33), none, (.q (.mov (.t 32)))⟩,
    ⟨(some 34), (some (33, true)), (.q (.fld 2 2 (.t 2)))⟩,
    ⟨(some 35), (some (33, true)), (.rd (.ld false 1 (.t 34)))⟩,
    ⟨(some 36), (some (33, true)), (.q (.fld 2 2 (.t 3)))⟩,
    ⟨(some 37), (some (33, true)), (.rd (.ld false 1 (.t 36)))⟩,
    ⟨(some 38), (some (33, true)), (.q (.bin .sub 3 (.t 35) (.t 37)))⟩,
    ⟨(some 39), (some (33, true)), (.ac (.callf 209 [(.t 38), (.k (.int .i64 (-32))), (.k (.int .i64 32))]))⟩,
    ⟨(some 40), none, (.q (.pick (.t 33) (.t 39) (.k (.bool false))))⟩,
    ⟨(some 41), none, (.q (.mov (.t 40)))⟩,
    ⟨(some 42), (some (41, true)), (.q (.fld 3 3 (.t 2)))⟩,
    ⟨(some 43), (some (41, true)), (.rd (.ld false 1 (.t 42)))⟩,
    ⟨(some 44), (some (41, true)), (.q (.fld 3 3 (.t 3)))⟩,
    ⟨(some 45), (some (41, true)), (.rd (.ld false 1 (.t 44)))⟩,
    ⟨(some 46), (some (41, true)), (.q (.bin .sub 3 (.t 43) (.t 45)))⟩,
    ⟨(some 47), (some (41, true)), (.ac (.callf 209 [(.t 46), (.k (.int .i64 (-32))), (.k (.int .i64 32))]))⟩,
    ⟨(some 48), none, (.q (.pick (.t 41) (.t 47) (.k (.bool false))))⟩,
    ⟨(some 4), none, (.q (.mov (.t 48)))⟩] [2, 3, 4]) (
  .ret))),
  [.tmp 4], [2, 3]⟩
noncomputable def g210 : HFn Tryz.prog := ⟨r210, fun K => wslow Tryz.prog K r210.code, fun _ _ hK => wslow_fits hK _ (by decide +kernel)⟩
theorem c210 : chkF Tryz.prog Tryz.f210 r210 = true := by decide +kernel

/-- slices.IndexFunc[[]doubletake/api.Cell,doubletake/api.Cell] -/
def r211 : RFn := ⟨2,
  .seq (
  .reg [⟨(some 4), none, (.q (.mov (.k (.int .i64 0))))⟩] [0, 1]) (
  .seq (
  .seq (
  .reg [⟨(some 6), none, (.q (.mov (.t 0)))⟩,
    ⟨(some 7), none, (.q (.len false (.t 6)))⟩,
    ⟨(some 8), none, (.q (.mov (.k (.int .i64 0))))⟩] [0, 1, 7, 8]) (
  .block 0 (
   .loop [0, 1, 7, 8] (
    .seq (
    .reg [⟨(some 9), none, (.q (.bin .lss 3 (.t 8) (.t 7)))⟩] [0, 1, 7, 8, 9]) (
    .seq (
    .cond (.t 9) (
     .skip) (
     .exit 0)) (
    .seq (
    .block 1 (
     .seq (
     .reg [⟨(some 10), none, (.q (.mov (.t 8)))⟩,
       ⟨(some 5), none, (.q (.mov (.t 10)))⟩] [0, 1, 5, 7, 8]) (
     .seq (
     .reg [⟨(some 11), none, (.q (.mov (.t 1)))⟩,
       ⟨(some 12), none, (.q (.mov (.t 0)))⟩,
       ⟨(some 13), none, (.q (.mov (.t 5)))⟩,
       ⟨(some 14), none, (.q (.ixs 4 (.t 12) (.t 13)))⟩,
       ⟨(some 15), none, (.rd (.ld true 4 (.t 14)))⟩,
       ⟨(some 16), none, (.ac (.callv (.t 11) [(.t 15)]))⟩] [0, 1, 5, 7, 8, 16]) (
     .cond (.t 16) (
      .seq (
      .reg [⟨(some 17), none, (.q (.mov (.t 5)))⟩,
        ⟨(some 4), none, (.q (.mov (.t 17)))⟩] [4]) (
      .ret)) (
      .skip))))) (
    .reg [⟨(some 18), none, (.q (.bin .add 3 (.t 8) (.k (.int .i64 1))))⟩,
      ⟨(some 8), none, (.q (.mov (.t 18)))⟩] [0, 1, 7, 8]))))))) (
  .seq (
  .reg [⟨(some 4), none, (.q (.mov (.k (.int .i64 (-1)))))⟩] [4]) (
  .ret))),
  [.tmp 4], []⟩
noncomputable def g211 : HFn Tryz.prog := ⟨r211, fun K => wslow Tryz.prog K r211.code, fun _ _ hK => wslow_fits hK _ (by decide +kernel)⟩
theorem c211 : chkF Tryz.prog Tryz.f211 r211 = true := by decide +kernel

/-- slices.Concat[[]doubletake/api.Cell,doubletake/api.Cell] -/
def r212 : RFn := ⟨1,
  .seq (
  .reg [⟨(some 2), none, (.q (.mov .nils))⟩] [0]) (
  .seq (
  .reg [⟨(some 3), none, (.q (.mov (.k (.int .i64 0))))⟩] [0, 3]) (
  .seq (
  .seq (
  .reg [⟨(some 9), none, (.q (.mov (.t 0)))⟩,
    ⟨(some 10), none, (.q (.len false (.t 9)))⟩,
    ⟨(some 11), none, (.q (.mov (.k (.int .i64 0))))⟩] [0, 3, 9, 10, 11]) (
  .block 0 (
   .loop [0, 3, 9, 10, 11] (
    .seq (
    .reg [⟨(some 12), none, (.q (.bin .lss 3 (.t 11) (.t 10)))⟩] [0, 3, 9, 10, 11, 12]) (
    .seq (
    .cond (.t 12) (
     .skip) (
     .exit 0)) (
    .seq (
    .block 1 (
     .seq (
     .reg [⟨(some 13), none, (.q (.ixs 1 (.t 9) (.t 11)))⟩,
       ⟨(some 14), none, (.rd (.ld false 1 (.t 13)))⟩,
       ⟨(some 5), none, (.q (.mov (.t 14)))⟩] [0, 3, 5, 9, 10, 11]) (
     .seq (
     .reg [⟨(some 15), none, (.q (.mov (.t 3)))⟩,
       ⟨(some 16), none, (.q (.mov (.t 5)))⟩,
       ⟨(some 17), none, (.q (.len false (.t 16)))⟩,
       ⟨(some 18), none, (.q (.bin .add 3 (.t 15) (.t 17)))⟩,
       ⟨(some 3), none, (.q (.mov (.t 18)))⟩] [0, 3, 9, 10, 11]) (
     .seq (
     .reg [⟨(some 19), none, (.q (.mov (.t 3)))⟩,
       ⟨(some 20), none, (.q (.bin .lss 3 (.t 19) (.k (.int .i64 0))))⟩] [0, 3, 9, 10, 11, 20]) (
     .cond (.t 20) (
      .reg [⟨(some 21), none, (.q (.mki 9 (.k (.string ⟨#[108, 101, 110, 32, 111, 117, 116, 32, 111, 102, 32, 114, 97, 110, 103, 101]⟩))))⟩,
        ⟨none, none, (.ac (.pan (.t 21)))⟩] [0, 3, 9, 10, 11]) (
      .skip)))))) (
    .reg [⟨(some 22), none, (.q (.bin .add 3 (.t 11) (.k (.int .i64 1))))⟩,
      ⟨(some 11), none, (.q (.mov (.t 22)))⟩] [0, 3, 9, 10, 11]))))))) (
  .seq (
  .reg [⟨(some 23), none, (.q (.mov (.t 3)))⟩,
    ⟨(some 24), none, (.ac (.callf 225 [.nils, (.t 23)]))⟩,
    ⟨(some 6), none, (.q (.mov (.t 24)))⟩] [0, 6]) (
  .seq (
  .seq (
  .reg [⟨(some 25), none, (.q (.mov (.t 0)))⟩,
    ⟨(some 26), none, (.q (.len false (.t 25)))⟩,
    ⟨(some 27), none, (.q (.mov (.k (.int .i64 0))))⟩] [6, 25, 26, 27]) (
  .block 2 (
   .loop [6, 25, 26, 27] (
    .seq (
    .reg [⟨(some 28), none, (.q (.bin .lss 3 (.t 27) (.t 26)))⟩] [6, 25, 26, 27, 28]) (
    .seq (
    .cond (.t 28) (
     .skip) (
     .exit 2)) (
    .seq (
    .block 3 (
     .seq (
     .reg [⟨(some 29), none, (.q (.ixs 1 (.t 25) (.t 27)))⟩,
       ⟨(some 30), none, (.rd (.ld false 1 (.t 29)))⟩,
       ⟨(some 8), none, (.q (.mov (.t 30)))⟩] [6, 8, 25, 26, 27]) (
     .reg [⟨(some 31), none, (.q (.mov (.t 6)))⟩,
       ⟨(some 32), none, (.q (.mov (.t 8)))⟩,
       ⟨(some 33), none, (.ac (.app false 4 32 (.t 31) (.t 32)))⟩,
       ⟨(some 6), none, (.q (.mov (.t 33)))⟩] [6, 25, 26, 27]))) (
    .reg [⟨(some 34), none, (.q (.bin .add 3 (.t 27) (.k (.int .i64 1))))⟩,
      ⟨(some 27), none, (.q (.mov (.t 34)))⟩] [6, 25, 26, 27]))))))) (
  .seq (
  .reg [⟨(some 35), none, (.q (.mov (.t 6)))⟩,
    ⟨(some 2), none, (.q (.mov (.t 35)))⟩] [2]) (
  .ret)))))),
  [.tmp 2], []⟩
noncomputable def g212 : HFn Tryz.prog := ⟨r212, fun K => wslow Tryz.prog K r212.code, fun _ _ hK => wslow_fits hK _ (by decide +kernel)⟩
theorem c212 : chkF Tryz.prog Tryz.f212 r212 = true := by decide +kernel

end Go.AM
