import Derived.Test.YtpkmlogclnjijaaGreatAm43
/-! The resolved form of the program's functions, written by program. -/
set_option linter.unusedVariables false
namespace Go.AM
open Go.Proofs

/-! doubletake/doubletakeref15.bits -/
def o62n0 : List RI := [⟨(some 1), none, (.al (.box (.t 0)))⟩, ⟨(some 2), none, (.q (.mov .nils))⟩]
noncomputable def b62n0 (K : KTC) (k : KS) (a0 : AV) (x : Env) (c : KN) (p : KV) : Kr :=
  pAl (evAl [(0, a0)] k.nx (.box (.t 0))) k fun v0 k0 =>
  c (Env.keep ([(1, v0)] ++ x) [1, 7]) k0
theorem e62n0 (K : KTC) (k : KS) (a0 : AV) (x : Env) (c : KN) (p : KV) : b62n0 K k a0 x c p = wReg Tryz.prog K [1, 7] o62n0 ([(0, a0)] ++ x) k c p := by unfold b62n0; kernel_rfl
noncomputable def s62n0 (K : KTC) (e : Env) (k : KS) (c : KN) (p : KV) : Kr := gt e 0 fun a0 => b62n0 K k a0 (e.keep [7]) c p
theorem p62n0 (K : KTC) (K' : KT) (hK : CSound K K') : FitsC Tryz.prog K' (.reg (s62n0 K)) (.reg o62n0 [1, 7]) := fun e k c p y h => by
  obtain ⟨a0, h0, h⟩ := gt_some h
  exact wreg_fit hK (by decide +kernel) (keep_cons h0 (rfl)) (e62n0 K k a0 (e.keep [7]) c p) h
def o62n1 : List RI := [⟨(some 8), none, (.q (.bld (.agg [1] [(.slice none 0)]) []))⟩, ⟨(some 9), none, (.al (.box (.t 8)))⟩, ⟨(some 3), none, (.q (.mov (.t 9)))⟩]
noncomputable def b62n1 (K : KTC) (k : KS) (a1 : AV) (x : Env) (c : KN) (p : KV) : Kr :=
  (kQ Tryz.prog [] (.bld (.agg [1] [(.slice none 0)]) [])).bind fun v0 =>
  pAl (evAl [(8, v0)] k.nx (.box (.t 8))) k fun v1 k1 =>
  c (Env.keep ([(1, a1), (3, v1), (9, v1)] ++ x) [1, 3, 7, 9]) k1
theorem e62n1 (K : KTC) (k : KS) (a1 : AV) (x : Env) (c : KN) (p : KV) : b62n1 K k a1 x c p = wReg Tryz.prog K [1, 3, 7, 9] o62n1 ([(1, a1)] ++ x) k c p := by unfold b62n1; kernel_rfl
noncomputable def s62n1 (K : KTC) (e : Env) (k : KS) (c : KN) (p : KV) : Kr := gt e 1 fun a1 => b62n1 K k a1 (e.keep [7]) c p
theorem p62n1 (K : KTC) (K' : KT) (hK : CSound K K') : FitsC Tryz.prog K' (.reg (s62n1 K)) (.reg o62n1 [1, 3, 7, 9]) := fun e k c p y h => by
  obtain ⟨a1, h1, h⟩ := gt_some h
  exact wreg_fit hK (by decide +kernel) (keep_cons h1 (rfl)) (e62n1 K k a1 (e.keep [7]) c p) h
def o62n2 : List RI := [⟨(some 10), none, (.q (.mov (.t 3)))⟩, ⟨(some 11), none, (.q (.fld 0 0 (.t 1)))⟩, ⟨(some 12), none, (.rd (.ld false 1 (.t 11)))⟩, ⟨(some 13), none, (.ac (.callf 81 [(.t 10), (.t 12), (.k (.int .i64 3))]))⟩]
noncomputable def b62n2 (K : KTC) (k : KS) (a3 a1 a9 : AV) (x : Env) (c : KN) (p : KV) : Kr :=
  xFld 0 0 a1 fun v0 =>
  xLd k.t false 1 v0 fun v1 =>
  K 81 [a3, v1, (.sc (.int .i64 3))] k (fun v2 k2 =>
  c (Env.keep ([(1, a1), (3, a3), (9, a9)] ++ x) [1, 3, 7, 9]) k2) (p)
theorem e62n2 (K : KTC) (k : KS) (a3 a1 a9 : AV) (x : Env) (c : KN) (p : KV) : b62n2 K k a3 a1 a9 x c p = wReg Tryz.prog K [1, 3, 7, 9] o62n2 ([(3, a3), (1, a1), (9, a9)] ++ x) k c p := by unfold b62n2; simp only [xLd_eq, xFld_eq]; kernel_rfl
noncomputable def s62n2 (K : KTC) (e : Env) (k : KS) (c : KN) (p : KV) : Kr := gt e 3 fun a3 => gt e 1 fun a1 => gt e 9 fun a9 => b62n2 K k a3 a1 a9 (e.keep [7]) c p
theorem p62n2 (K : KTC) (K' : KT) (hK : CSound K K') : FitsC Tryz.prog K' (.reg (s62n2 K)) (.reg o62n2 [1, 3, 7, 9]) := fun e k c p y h => by
  obtain ⟨a3, h3, h⟩ := gt_some h
  obtain ⟨a1, h1, h⟩ := gt_some h
  obtain ⟨a9, h9, h⟩ := gt_some h
  exact wreg_fit hK (by decide +kernel) (keep_cons h3 (keep_cons h1 (keep_cons h9 (rfl)))) (e62n2 K k a3 a1 a9 (e.keep [7]) c p) h
def o62n3 : List RI := [⟨(some 14), none, (.q (.mov (.t 3)))⟩, ⟨(some 15), none, (.q (.fld 1 1 (.t 1)))⟩, ⟨(some 16), none, (.rd (.ld false 1 (.t 15)))⟩, ⟨(some 17), none, (.ac (.callf 81 [(.t 14), (.t 16), (.k (.int .i64 3))]))⟩]
noncomputable def b62n3 (K : KTC) (k : KS) (a3 a1 a9 : AV) (x : Env) (c : KN) (p : KV) : Kr :=
  xFld 1 1 a1 fun v0 =>
  xLd k.t false 1 v0 fun v1 =>
  K 81 [a3, v1, (.sc (.int .i64 3))] k (fun v2 k2 =>
  c (Env.keep ([(1, a1), (3, a3), (9, a9)] ++ x) [1, 3, 7, 9]) k2) (p)
theorem e62n3 (K : KTC) (k : KS) (a3 a1 a9 : AV) (x : Env) (c : KN) (p : KV) : b62n3 K k a3 a1 a9 x c p = wReg Tryz.prog K [1, 3, 7, 9] o62n3 ([(3, a3), (1, a1), (9, a9)] ++ x) k c p := by unfold b62n3; simp only [xLd_eq, xFld_eq]; kernel_rfl
noncomputable def s62n3 (K : KTC) (e : Env) (k : KS) (c : KN) (p : KV) : Kr := gt e 3 fun a3 => gt e 1 fun a1 => gt e 9 fun a9 => b62n3 K k a3 a1 a9 (e.keep [7]) c p
theorem p62n3 (K : KTC) (K' : KT) (hK : CSound K K') : FitsC Tryz.prog K' (.reg (s62n3 K)) (.reg o62n3 [1, 3, 7, 9]) := fun e k c p y h => by
  obtain ⟨a3, h3, h⟩ := gt_some h
  obtain ⟨a1, h1, h⟩ := gt_some h
  obtain ⟨a9, h9, h⟩ := gt_some h
  exact wreg_fit hK (by decide +kernel) (keep_cons h3 (keep_cons h1 (keep_cons h9 (rfl)))) (e62n3 K k a3 a1 a9 (e.keep [7]) c p) h
def o62n4 : List RI := [⟨(some 18), none, (.q (.mov (.t 3)))⟩, ⟨(some 19), none, (.q (.fld 2 2 (.t 1)))⟩, ⟨(some 20), none, (.rd (.ld false 1 (.t 19)))⟩, ⟨(some 21), none, (.ac (.callf 81 [(.t 18), (.t 20), (.k (.int .i64 16))]))⟩]
noncomputable def b62n4 (K : KTC) (k : KS) (a3 a1 a9 : AV) (x : Env) (c : KN) (p : KV) : Kr :=
  xFld 2 2 a1 fun v0 =>
  xLd k.t false 1 v0 fun v1 =>
  K 81 [a3, v1, (.sc (.int .i64 16))] k (fun v2 k2 =>
  c (Env.keep ([(1, a1), (3, a3), (9, a9)] ++ x) [1, 3, 7, 9]) k2) (p)
theorem e62n4 (K : KTC) (k : KS) (a3 a1 a9 : AV) (x : Env) (c : KN) (p : KV) : b62n4 K k a3 a1 a9 x c p = wReg Tryz.prog K [1, 3, 7, 9] o62n4 ([(3, a3), (1, a1), (9, a9)] ++ x) k c p := by unfold b62n4; simp only [xLd_eq, xFld_eq]; kernel_rfl
noncomputable def s62n4 (K : KTC) (e : Env) (k : KS) (c : KN) (p : KV) : Kr := gt e 3 fun a3 => gt e 1 fun a1 => gt e 9 fun a9 => b62n4 K k a3 a1 a9 (e.keep [7]) c p
theorem p62n4 (K : KTC) (K' : KT) (hK : CSound K K') : FitsC Tryz.prog K' (.reg (s62n4 K)) (.reg o62n4 [1, 3, 7, 9]) := fun e k c p y h => by
  obtain ⟨a3, h3, h⟩ := gt_some h
  obtain ⟨a1, h1, h⟩ := gt_some h
  obtain ⟨a9, h9, h⟩ := gt_some h
  exact wreg_fit hK (by decide +kernel) (keep_cons h3 (keep_cons h1 (keep_cons h9 (rfl)))) (e62n4 K k a3 a1 a9 (e.keep [7]) c p) h
def o62n5 : List RI := [⟨(some 22), none, (.q (.mov (.t 3)))⟩, ⟨(some 23), none, (.q (.fld 3 3 (.t 1)))⟩, ⟨(some 24), none, (.rd (.ld false 1 (.t 23)))⟩, ⟨(some 25), none, (.ac (.callf 81 [(.t 22), (.t 24), (.k (.int .i64 16))]))⟩]
noncomputable def b62n5 (K : KTC) (k : KS) (a3 a1 a9 : AV) (x : Env) (c : KN) (p : KV) : Kr :=
  xFld 3 3 a1 fun v0 =>
  xLd k.t false 1 v0 fun v1 =>
  K 81 [a3, v1, (.sc (.int .i64 16))] k (fun v2 k2 =>
  c (Env.keep ([(1, a1), (3, a3), (9, a9)] ++ x) [1, 3, 7, 9]) k2) (p)
theorem e62n5 (K : KTC) (k : KS) (a3 a1 a9 : AV) (x : Env) (c : KN) (p : KV) : b62n5 K k a3 a1 a9 x c p = wReg Tryz.prog K [1, 3, 7, 9] o62n5 ([(3, a3), (1, a1), (9, a9)] ++ x) k c p := by unfold b62n5; simp only [xLd_eq, xFld_eq]; kernel_rfl
noncomputable def s62n5 (K : KTC) (e : Env) (k : KS) (c : KN) (p : KV) : Kr := gt e 3 fun a3 => gt e 1 fun a1 => gt e 9 fun a9 => b62n5 K k a3 a1 a9 (e.keep [7]) c p
theorem p62n5 (K : KTC) (K' : KT) (hK : CSound K K') : FitsC Tryz.prog K' (.reg (s62n5 K)) (.reg o62n5 [1, 3, 7, 9]) := fun e k c p y h => by
  obtain ⟨a3, h3, h⟩ := gt_some h
  obtain ⟨a1, h1, h⟩ := gt_some h
  obtain ⟨a9, h9, h⟩ := gt_some h
  exact wreg_fit hK (by decide +kernel) (keep_cons h3 (keep_cons h1 (keep_cons h9 (rfl)))) (e62n5 K k a3 a1 a9 (e.keep [7]) c p) h
def o62n6 : List RI := [⟨(some 26), none, (.q (.mov (.t 3)))⟩, ⟨(some 27), none, (.q (.fld 4 4 (.t 1)))⟩, ⟨(some 28), none, (.rd (.ld false 1 (.t 27)))⟩, ⟨(some 29), none, (.ac (.callf 100 [(.t 28)]))⟩, ⟨(some 30), none, (.ac (.callf 81 [(.t 26), (.t 29), (.k (.int .i64 1))]))⟩]
noncomputable def b62n6 (K : KTC) (k : KS) (a3 a1 a9 : AV) (x : Env) (c : KN) (p : KV) : Kr :=
  xFld 4 4 a1 fun v0 =>
  xLd k.t false 1 v0 fun v1 =>
  K 100 [v1] k (fun v2 k2 =>
  K 81 [a3, v2, (.sc (.int .i64 1))] k2 (fun v3 k3 =>
  c (Env.keep ([(1, a1), (3, a3), (9, a9)] ++ x) [1, 3, 7, 9]) k3) (p)) (p)
theorem e62n6 (K : KTC) (k : KS) (a3 a1 a9 : AV) (x : Env) (c : KN) (p : KV) : b62n6 K k a3 a1 a9 x c p = wReg Tryz.prog K [1, 3, 7, 9] o62n6 ([(3, a3), (1, a1), (9, a9)] ++ x) k c p := by unfold b62n6; simp only [xLd_eq, xFld_eq]; kernel_rfl
noncomputable def s62n6 (K : KTC) (e : Env) (k : KS) (c : KN) (p : KV) : Kr := gt e 3 fun a3 => gt e 1 fun a1 => gt e 9 fun a9 => b62n6 K k a3 a1 a9 (e.keep [7]) c p
theorem p62n6 (K : KTC) (K' : KT) (hK : CSound K K') : FitsC Tryz.prog K' (.reg (s62n6 K)) (.reg o62n6 [1, 3, 7, 9]) := fun e k c p y h => by
  obtain ⟨a3, h3, h⟩ := gt_some h
  obtain ⟨a1, h1, h⟩ := gt_some h
  obtain ⟨a9, h9, h⟩ := gt_some h
  exact wreg_fit hK (by decide +kernel) (keep_cons h3 (keep_cons h1 (keep_cons h9 (rfl)))) (e62n6 K k a3 a1 a9 (e.keep [7]) c p) h
def o62n7 : List RI := [⟨(some 31), none, (.q (.mov (.t 3)))⟩, ⟨(some 32), none, (.q (.fld 5 5 (.t 1)))⟩, ⟨(some 33), none, (.rd (.ld false 1 (.t 32)))⟩, ⟨(some 34), none, (.ac (.callf 82 [(.t 31), (.t 33), (.k (.int .i64 64))]))⟩]
noncomputable def b62n7 (K : KTC) (k : KS) (a3 a1 a9 : AV) (x : Env) (c : KN) (p : KV) : Kr :=
  xFld 5 5 a1 fun v0 =>
  xLd k.t false 1 v0 fun v1 =>
  K 82 [a3, v1, (.sc (.int .i64 64))] k (fun v2 k2 =>
  c (Env.keep ([(1, a1), (3, a3), (9, a9)] ++ x) [1, 3, 7, 9]) k2) (p)
theorem e62n7 (K : KTC) (k : KS) (a3 a1 a9 : AV) (x : Env) (c : KN) (p : KV) : b62n7 K k a3 a1 a9 x c p = wReg Tryz.prog K [1, 3, 7, 9] o62n7 ([(3, a3), (1, a1), (9, a9)] ++ x) k c p := by unfold b62n7; simp only [xLd_eq, xFld_eq]; kernel_rfl
noncomputable def s62n7 (K : KTC) (e : Env) (k : KS) (c : KN) (p : KV) : Kr := gt e 3 fun a3 => gt e 1 fun a1 => gt e 9 fun a9 => b62n7 K k a3 a1 a9 (e.keep [7]) c p
theorem p62n7 (K : KTC) (K' : KT) (hK : CSound K K') : FitsC Tryz.prog K' (.reg (s62n7 K)) (.reg o62n7 [1, 3, 7, 9]) := fun e k c p y h => by
  obtain ⟨a3, h3, h⟩ := gt_some h
  obtain ⟨a1, h1, h⟩ := gt_some h
  obtain ⟨a9, h9, h⟩ := gt_some h
  exact wreg_fit hK (by decide +kernel) (keep_cons h3 (keep_cons h1 (keep_cons h9 (rfl)))) (e62n7 K k a3 a1 a9 (e.keep [7]) c p) h
def o62n8 : List RI := [⟨(some 35), none, (.q (.fld 0 0 (.t 1)))⟩, ⟨(some 36), none, (.rd (.ld false 1 (.t 35)))⟩]
noncomputable def b62n8 (K : KTC) (k : KS) (a1 a3 a9 : AV) (x : Env) (c : KN) (p : KV) : Kr :=
  xFld 0 0 a1 fun v0 =>
  xLd k.t false 1 v0 fun v1 =>
  c (Env.keep ([(1, a1), (3, a3), (9, a9), (36, v1)] ++ x) [1, 3, 7, 9, 36]) k
theorem e62n8 (K : KTC) (k : KS) (a1 a3 a9 : AV) (x : Env) (c : KN) (p : KV) : b62n8 K k a1 a3 a9 x c p = wReg Tryz.prog K [1, 3, 7, 9, 36] o62n8 ([(1, a1), (3, a3), (9, a9)] ++ x) k c p := by unfold b62n8; simp only [xLd_eq, xFld_eq]; kernel_rfl
noncomputable def s62n8 (K : KTC) (e : Env) (k : KS) (c : KN) (p : KV) : Kr := gt e 1 fun a1 => gt e 3 fun a3 => gt e 9 fun a9 => b62n8 K k a1 a3 a9 (e.keep [7]) c p
theorem p62n8 (K : KTC) (K' : KT) (hK : CSound K K') : FitsC Tryz.prog K' (.reg (s62n8 K)) (.reg o62n8 [1, 3, 7, 9, 36]) := fun e k c p y h => by
  obtain ⟨a1, h1, h⟩ := gt_some h
  obtain ⟨a3, h3, h⟩ := gt_some h
  obtain ⟨a9, h9, h⟩ := gt_some h
  exact wreg_fit hK (by decide +kernel) (keep_cons h1 (keep_cons h3 (keep_cons h9 (rfl)))) (e62n8 K k a1 a3 a9 (e.keep [7]) c p) h
def o62n9 : List RI := [⟨(some 38), none, (.q (.bin .eql 3 (.t 36) (.k (.int .i64 2))))⟩, ⟨(some 37), none, (.q (.mov (.t 38)))⟩]
noncomputable def b62n9 (K : KTC) (k : KS) (a36 a1 a3 a9 : AV) (x : Env) (c : KN) (p : KV) : Kr :=
  xEql 3 a36 (.sc (.int .i64 2)) fun v0 =>
  c (Env.keep ([(1, a1), (3, a3), (9, a9), (36, a36), (37, v0)] ++ x) [1, 3, 7, 9, 36, 37]) k
theorem e62n9 (K : KTC) (k : KS) (a36 a1 a3 a9 : AV) (x : Env) (c : KN) (p : KV) : b62n9 K k a36 a1 a3 a9 x c p = wReg Tryz.prog K [1, 3, 7, 9, 36, 37] o62n9 ([(36, a36), (1, a1), (3, a3), (9, a9)] ++ x) k c p := by unfold b62n9; simp only [xEql_eq]; kernel_rfl
noncomputable def s62n9 (K : KTC) (e : Env) (k : KS) (c : KN) (p : KV) : Kr := gt e 36 fun a36 => gt e 1 fun a1 => gt e 3 fun a3 => gt e 9 fun a9 => b62n9 K k a36 a1 a3 a9 (e.keep [7]) c p
theorem p62n9 (K : KTC) (K' : KT) (hK : CSound K K') : FitsC Tryz.prog K' (.reg (s62n9 K)) (.reg o62n9 [1, 3, 7, 9, 36, 37]) := fun e k c p y h => by
  obtain ⟨a36, h36, h⟩ := gt_some h
  obtain ⟨a1, h1, h⟩ := gt_some h
  obtain ⟨a3, h3, h⟩ := gt_some h
  obtain ⟨a9, h9, h⟩ := gt_some h
  exact wreg_fit hK (by decide +kernel) (keep_cons h36 (keep_cons h1 (keep_cons h3 (keep_cons h9 (rfl))))) (e62n9 K k a36 a1 a3 a9 (e.keep [7]) c p) h
def o62n10 : List RI := [⟨(some 39), none, (.q (.mov (.t 3)))⟩, ⟨(some 40), none, (.q (.fld 6 6 (.t 1)))⟩, ⟨(some 41), none, (.rd (.ld false 1 (.t 40)))⟩, ⟨(some 42), none, (.ac (.callf 81 [(.t 39), (.t 41), (.k (.int .i64 10))]))⟩]
noncomputable def b62n10 (K : KTC) (k : KS) (a3 a1 a9 : AV) (x : Env) (c : KN) (p : KV) : Kr :=
  xFld 6 6 a1 fun v0 =>
  xLd k.t false 1 v0 fun v1 =>
  K 81 [a3, v1, (.sc (.int .i64 10))] k (fun v2 k2 =>
  c (Env.keep ([(1, a1), (3, a3), (9, a9)] ++ x) [1, 3, 7, 9]) k2) (p)
theorem e62n10 (K : KTC) (k : KS) (a3 a1 a9 : AV) (x : Env) (c : KN) (p : KV) : b62n10 K k a3 a1 a9 x c p = wReg Tryz.prog K [1, 3, 7, 9] o62n10 ([(3, a3), (1, a1), (9, a9)] ++ x) k c p := by unfold b62n10; simp only [xLd_eq, xFld_eq]; kernel_rfl
noncomputable def s62n10 (K : KTC) (e : Env) (k : KS) (c : KN) (p : KV) : Kr := gt e 3 fun a3 => gt e 1 fun a1 => gt e 9 fun a9 => b62n10 K k a3 a1 a9 (e.keep [7]) c p
theorem p62n10 (K : KTC) (K' : KT) (hK : CSound K K') : FitsC Tryz.prog K' (.reg (s62n10 K)) (.reg o62n10 [1, 3, 7, 9]) := fun e k c p y h => by
  obtain ⟨a3, h3, h⟩ := gt_some h
  obtain ⟨a1, h1, h⟩ := gt_some h
  obtain ⟨a9, h9, h⟩ := gt_some h
  exact wreg_fit hK (by decide +kernel) (keep_cons h3 (keep_cons h1 (keep_cons h9 (rfl)))) (e62n10 K k a3 a1 a9 (e.keep [7]) c p) h
def o62n11 : List RI := [⟨(some 43), none, (.q (.mov (.t 3)))⟩, ⟨(some 44), none, (.q (.fld 7 7 (.t 1)))⟩, ⟨(some 45), none, (.rd (.ld false 1 (.t 44)))⟩, ⟨(some 46), none, (.ac (.callf 81 [(.t 43), (.t 45), (.k (.int .i64 10))]))⟩]
noncomputable def b62n11 (K : KTC) (k : KS) (a3 a1 a9 : AV) (x : Env) (c : KN) (p : KV) : Kr :=
  xFld 7 7 a1 fun v0 =>
  xLd k.t false 1 v0 fun v1 =>
  K 81 [a3, v1, (.sc (.int .i64 10))] k (fun v2 k2 =>
  c (Env.keep ([(1, a1), (3, a3), (9, a9)] ++ x) [1, 3, 7, 9]) k2) (p)
theorem e62n11 (K : KTC) (k : KS) (a3 a1 a9 : AV) (x : Env) (c : KN) (p : KV) : b62n11 K k a3 a1 a9 x c p = wReg Tryz.prog K [1, 3, 7, 9] o62n11 ([(3, a3), (1, a1), (9, a9)] ++ x) k c p := by unfold b62n11; simp only [xLd_eq, xFld_eq]; kernel_rfl
noncomputable def s62n11 (K : KTC) (e : Env) (k : KS) (c : KN) (p : KV) : Kr := gt e 3 fun a3 => gt e 1 fun a1 => gt e 9 fun a9 => b62n11 K k a3 a1 a9 (e.keep [7]) c p
theorem p62n11 (K : KTC) (K' : KT) (hK : CSound K K') : FitsC Tryz.prog K' (.reg (s62n11 K)) (.reg o62n11 [1, 3, 7, 9]) := fun e k c p y h => by
  obtain ⟨a3, h3, h⟩ := gt_some h
  obtain ⟨a1, h1, h⟩ := gt_some h
  obtain ⟨a9, h9, h⟩ := gt_some h
  exact wreg_fit hK (by decide +kernel) (keep_cons h3 (keep_cons h1 (keep_cons h9 (rfl)))) (e62n11 K k a3 a1 a9 (e.keep [7]) c p) h
def o62n12 : List RI := [⟨(some 47), none, (.q (.mov (.t 3)))⟩, ⟨(some 48), none, (.q (.fld 8 8 (.t 1)))⟩, ⟨(some 49), none, (.rd (.ld false 1 (.t 48)))⟩, ⟨(some 50), none, (.q (.len false (.t 49)))⟩, ⟨(some 51), none, (.ac (.callf 81 [(.t 47), (.t 50), (.k (.int .i64 5))]))⟩]
noncomputable def b62n12 (K : KTC) (k : KS) (a3 a1 a9 : AV) (x : Env) (c : KN) (p : KV) : Kr :=
  xFld 8 8 a1 fun v0 =>
  xLd k.t false 1 v0 fun v1 =>
  xLen v1 fun v2 =>
  K 81 [a3, v2, (.sc (.int .i64 5))] k (fun v3 k3 =>
  c (Env.keep ([(1, a1), (3, a3), (9, a9)] ++ x) [1, 3, 7, 9]) k3) (p)
theorem e62n12 (K : KTC) (k : KS) (a3 a1 a9 : AV) (x : Env) (c : KN) (p : KV) : b62n12 K k a3 a1 a9 x c p = wReg Tryz.prog K [1, 3, 7, 9] o62n12 ([(3, a3), (1, a1), (9, a9)] ++ x) k c p := by unfold b62n12; simp only [xLen_eq, xLd_eq, xFld_eq]; kernel_rfl
noncomputable def s62n12 (K : KTC) (e : Env) (k : KS) (c : KN) (p : KV) : Kr := gt e 3 fun a3 => gt e 1 fun a1 => gt e 9 fun a9 => b62n12 K k a3 a1 a9 (e.keep [7]) c p
theorem p62n12 (K : KTC) (K' : KT) (hK : CSound K K') : FitsC Tryz.prog K' (.reg (s62n12 K)) (.reg o62n12 [1, 3, 7, 9]) := fun e k c p y h => by
  obtain ⟨a3, h3, h⟩ := gt_some h
  obtain ⟨a1, h1, h⟩ := gt_some h
  obtain ⟨a9, h9, h⟩ := gt_some h
  exact wreg_fit hK (by decide +kernel) (keep_cons h3 (keep_cons h1 (keep_cons h9 (rfl)))) (e62n12 K k a3 a1 a9 (e.keep [7]) c p) h
def o62n13 : List RI := [⟨(some 4), none, (.q (.mov (.k (.int .i64 0))))⟩]
noncomputable def b62n13 (K : KTC) (k : KS) (a1 a3 a9 : AV) (x : Env) (c : KN) (p : KV) : Kr :=
  c (Env.keep ([(1, a1), (3, a3), (4, (.sc (.int .i64 0))), (9, a9)] ++ x) [1, 3, 4, 7, 9]) k
theorem e62n13 (K : KTC) (k : KS) (a1 a3 a9 : AV) (x : Env) (c : KN) (p : KV) : b62n13 K k a1 a3 a9 x c p = wReg Tryz.prog K [1, 3, 4, 7, 9] o62n13 ([(1, a1), (3, a3), (9, a9)] ++ x) k c p := by unfold b62n13; kernel_rfl
noncomputable def s62n13 (K : KTC) (e : Env) (k : KS) (c : KN) (p : KV) : Kr := gt e 1 fun a1 => gt e 3 fun a3 => gt e 9 fun a9 => b62n13 K k a1 a3 a9 (e.keep [7]) c p
theorem p62n13 (K : KTC) (K' : KT) (hK : CSound K K') : FitsC Tryz.prog K' (.reg (s62n13 K)) (.reg o62n13 [1, 3, 4, 7, 9]) := fun e k c p y h => by
  obtain ⟨a1, h1, h⟩ := gt_some h
  obtain ⟨a3, h3, h⟩ := gt_some h
  obtain ⟨a9, h9, h⟩ := gt_some h
  exact wreg_fit hK (by decide +kernel) (keep_cons h1 (keep_cons h3 (keep_cons h9 (rfl)))) (e62n13 K k a1 a3 a9 (e.keep [7]) c p) h
def o62n14 : List RI := [⟨(some 52), none, (.q (.mov (.t 4)))⟩, ⟨(some 53), none, (.q (.fld 8 8 (.t 1)))⟩, ⟨(some 54), none, (.rd (.ld false 1 (.t 53)))⟩, ⟨(some 55), none, (.q (.len false (.t 54)))⟩, ⟨(some 56), none, (.q (.bin .lss 3 (.t 52) (.t 55)))⟩]
noncomputable def b62n14 (K : KTC) (k : KS) (a4 a1 a3 a9 : AV) (x : Env) (c : KN) (p : KV) : Kr :=
  xFld 8 8 a1 fun v0 =>
  xLd k.t false 1 v0 fun v1 =>
  xLen v1 fun v2 =>
  xLss 3 a4 v2 fun v3 =>
  c (Env.keep ([(1, a1), (3, a3), (4, a4), (9, a9), (56, v3)] ++ x) [1, 3, 4, 7, 9, 56]) k
theorem e62n14 (K : KTC) (k : KS) (a4 a1 a3 a9 : AV) (x : Env) (c : KN) (p : KV) : b62n14 K k a4 a1 a3 a9 x c p = wReg Tryz.prog K [1, 3, 4, 7, 9, 56] o62n14 ([(4, a4), (1, a1), (3, a3), (9, a9)] ++ x) k c p := by unfold b62n14; simp only [xLss_eq, xLen_eq, xLd_eq, xFld_eq]; kernel_rfl
noncomputable def s62n14 (K : KTC) (e : Env) (k : KS) (c : KN) (p : KV) : Kr := gt e 4 fun a4 => gt e 1 fun a1 => gt e 3 fun a3 => gt e 9 fun a9 => b62n14 K k a4 a1 a3 a9 (e.keep [7]) c p
theorem p62n14 (K : KTC) (K' : KT) (hK : CSound K K') : FitsC Tryz.prog K' (.reg (s62n14 K)) (.reg o62n14 [1, 3, 4, 7, 9, 56]) := fun e k c p y h => by
  obtain ⟨a4, h4, h⟩ := gt_some h
  obtain ⟨a1, h1, h⟩ := gt_some h
  obtain ⟨a3, h3, h⟩ := gt_some h
  obtain ⟨a9, h9, h⟩ := gt_some h
  exact wreg_fit hK (by decide +kernel) (keep_cons h4 (keep_cons h1 (keep_cons h3 (keep_cons h9 (rfl))))) (e62n14 K k a4 a1 a3 a9 (e.keep [7]) c p) h
def o62n15 : List RI := [⟨(some 59), none, (.q (.mov (.t 3)))⟩, ⟨(some 60), none, (.q (.fld 8 8 (.t 1)))⟩, ⟨(some 61), none, (.rd (.ld false 1 (.t 60)))⟩, ⟨(some 62), none, (.q (.mov (.t 4)))⟩, ⟨(some 63), none, (.q (.ixs 3 (.t 61) (.t 62)))⟩, ⟨(some 64), none, (.rd (.ld true 3 (.t 63)))⟩, ⟨(some 65), none, (.ac (.callf 101 [(.t 59), (.t 64)]))⟩]
noncomputable def b62n15 (K : KTC) (k : KS) (a3 a1 a4 a9 : AV) (x : Env) (c : KN) (p : KV) : Kr :=
  xFld 8 8 a1 fun v0 =>
  xLd k.t false 1 v0 fun v1 =>
  xIxl k.t 3 true 3 v1 a4 fun v2 =>
  K 101 [a3, v2] k (fun v3 k3 =>
  c (Env.keep ([(1, a1), (3, a3), (4, a4), (9, a9)] ++ x) [1, 3, 4, 7, 9]) k3) (p)
theorem e62n15 (K : KTC) (k : KS) (a3 a1 a4 a9 : AV) (x : Env) (c : KN) (p : KV) : b62n15 K k a3 a1 a4 a9 x c p = wReg Tryz.prog K [1, 3, 4, 7, 9] o62n15 ([(3, a3), (1, a1), (4, a4), (9, a9)] ++ x) k c p := by unfold b62n15; simp only [xIxl_eq, xLd_eq, xFld_eq]; kernel_rfl
noncomputable def s62n15 (K : KTC) (e : Env) (k : KS) (c : KN) (p : KV) : Kr := gt e 3 fun a3 => gt e 1 fun a1 => gt e 4 fun a4 => gt e 9 fun a9 => b62n15 K k a3 a1 a4 a9 (e.keep [7]) c p
theorem p62n15 (K : KTC) (K' : KT) (hK : CSound K K') : FitsC Tryz.prog K' (.reg (s62n15 K)) (.reg o62n15 [1, 3, 4, 7, 9]) := fun e k c p y h => by
  obtain ⟨a3, h3, h⟩ := gt_some h
  obtain ⟨a1, h1, h⟩ := gt_some h
  obtain ⟨a4, h4, h⟩ := gt_some h
  obtain ⟨a9, h9, h⟩ := gt_some h
  exact wreg_fit hK (by decide +kernel) (keep_cons h3 (keep_cons h1 (keep_cons h4 (keep_cons h9 (rfl))))) (e62n15 K k a3 a1 a4 a9 (e.keep [7]) c p) h
def o62n16 : List RI := [⟨(some 57), none, (.q (.mov (.t 4)))⟩, ⟨(some 58), none, (.q (.bin .add 3 (.t 57) (.k (.int .i64 1))))⟩, ⟨(some 4), none, (.q (.mov (.t 58)))⟩]
noncomputable def b62n16 (K : KTC) (k : KS) (a4 a1 a3 a9 : AV) (x : Env) (c : KN) (p : KV) : Kr :=
  xAdd 3 a4 (.sc (.int .i64 1)) fun v0 =>
  c (Env.keep ([(1, a1), (3, a3), (4, v0), (9, a9)] ++ x) [1, 3, 4, 7, 9]) k
theorem e62n16 (K : KTC) (k : KS) (a4 a1 a3 a9 : AV) (x : Env) (c : KN) (p : KV) : b62n16 K k a4 a1 a3 a9 x c p = wReg Tryz.prog K [1, 3, 4, 7, 9] o62n16 ([(4, a4), (1, a1), (3, a3), (9, a9)] ++ x) k c p := by unfold b62n16; simp only [xAdd_eq]; kernel_rfl
noncomputable def s62n16 (K : KTC) (e : Env) (k : KS) (c : KN) (p : KV) : Kr := gt e 4 fun a4 => gt e 1 fun a1 => gt e 3 fun a3 => gt e 9 fun a9 => b62n16 K k a4 a1 a3 a9 (e.keep [7]) c p
theorem p62n16 (K : KTC) (K' : KT) (hK : CSound K K') : FitsC Tryz.prog K' (.reg (s62n16 K)) (.reg o62n16 [1, 3, 4, 7, 9]) := fun e k c p y h => by
  obtain ⟨a4, h4, h⟩ := gt_some h
  obtain ⟨a1, h1, h⟩ := gt_some h
  obtain ⟨a3, h3, h⟩ := gt_some h
  obtain ⟨a9, h9, h⟩ := gt_some h
  exact wreg_fit hK (by decide +kernel) (keep_cons h4 (keep_cons h1 (keep_cons h3 (keep_cons h9 (rfl))))) (e62n16 K k a4 a1 a3 a9 (e.keep [7]) c p) h
def o62n17 : List RI := [⟨(some 67), none, (.q (.bin .eql 3 (.t 36) (.k (.int .i64 3))))⟩, ⟨(some 66), none, (.q (.mov (.t 67)))⟩]
noncomputable def b62n17 (K : KTC) (k : KS) (a36 a1 a3 a9 : AV) (x : Env) (c : KN) (p : KV) : Kr :=
  xEql 3 a36 (.sc (.int .i64 3)) fun v0 =>
  c (Env.keep ([(1, a1), (3, a3), (9, a9), (36, a36), (66, v0)] ++ x) [1, 3, 7, 9, 36, 66]) k
theorem e62n17 (K : KTC) (k : KS) (a36 a1 a3 a9 : AV) (x : Env) (c : KN) (p : KV) : b62n17 K k a36 a1 a3 a9 x c p = wReg Tryz.prog K [1, 3, 7, 9, 36, 66] o62n17 ([(36, a36), (1, a1), (3, a3), (9, a9)] ++ x) k c p := by unfold b62n17; simp only [xEql_eq]; kernel_rfl
noncomputable def s62n17 (K : KTC) (e : Env) (k : KS) (c : KN) (p : KV) : Kr := gt e 36 fun a36 => gt e 1 fun a1 => gt e 3 fun a3 => gt e 9 fun a9 => b62n17 K k a36 a1 a3 a9 (e.keep [7]) c p
theorem p62n17 (K : KTC) (K' : KT) (hK : CSound K K') : FitsC Tryz.prog K' (.reg (s62n17 K)) (.reg o62n17 [1, 3, 7, 9, 36, 66]) := fun e k c p y h => by
  obtain ⟨a36, h36, h⟩ := gt_some h
  obtain ⟨a1, h1, h⟩ := gt_some h
  obtain ⟨a3, h3, h⟩ := gt_some h
  obtain ⟨a9, h9, h⟩ := gt_some h
  exact wreg_fit hK (by decide +kernel) (keep_cons h36 (keep_cons h1 (keep_cons h3 (keep_cons h9 (rfl))))) (e62n17 K k a36 a1 a3 a9 (e.keep [7]) c p) h
def o62n18 : List RI := [⟨(some 68), none, (.q (.mov (.t 3)))⟩, ⟨(some 69), none, (.q (.fld 7 7 (.t 1)))⟩, ⟨(some 70), none, (.rd (.ld false 1 (.t 69)))⟩, ⟨(some 71), none, (.ac (.callf 81 [(.t 68), (.t 70), (.k (.int .i64 10))]))⟩]
noncomputable def b62n18 (K : KTC) (k : KS) (a3 a1 a9 : AV) (c : KN) (p : KV) : Kr :=
  xFld 7 7 a1 fun v0 =>
  xLd k.t false 1 v0 fun v1 =>
  K 81 [a3, v1, (.sc (.int .i64 10))] k (fun v2 k2 =>
  c [(1, a1), (3, a3), (9, a9)] k2) (p)
theorem e62n18 (K : KTC) (k : KS) (a3 a1 a9 : AV) (c : KN) (p : KV) : b62n18 K k a3 a1 a9 c p = wReg Tryz.prog K [1, 3, 9] o62n18 [(3, a3), (1, a1), (9, a9)] k c p := by unfold b62n18; simp only [xLd_eq, xFld_eq]; kernel_rfl
noncomputable def s62n18 (K : KTC) (e : Env) (k : KS) (c : KN) (p : KV) : Kr := gt e 3 fun a3 => gt e 1 fun a1 => gt e 9 fun a9 => b62n18 K k a3 a1 a9 c p
theorem p62n18 (K : KTC) (K' : KT) (hK : CSound K K') : FitsC Tryz.prog K' (.reg (s62n18 K)) (.reg o62n18 [1, 3, 9]) := fun e k c p y h => by
  obtain ⟨a3, h3, h⟩ := gt_some h
  obtain ⟨a1, h1, h⟩ := gt_some h
  obtain ⟨a9, h9, h⟩ := gt_some h
  exact wreg_fit hK (by decide +kernel) (keep_cons h3 (keep_cons h1 (keep_cons h9 (keep_nil)))) (e62n18 K k a3 a1 a9 c p) h
def o62n19 : List RI := [⟨(some 72), none, (.q (.mov (.t 3)))⟩, ⟨(some 73), none, (.q (.fld 9 9 (.t 1)))⟩, ⟨(some 74), none, (.rd (.ld false 1 (.t 73)))⟩, ⟨(some 75), none, (.ac (.callf 81 [(.t 72), (.t 74), (.k (.int .i64 4))]))⟩]
noncomputable def b62n19 (K : KTC) (k : KS) (a3 a1 a9 : AV) (c : KN) (p : KV) : Kr :=
  xFld 9 9 a1 fun v0 =>
  xLd k.t false 1 v0 fun v1 =>
  K 81 [a3, v1, (.sc (.int .i64 4))] k (fun v2 k2 =>
  c [(1, a1), (3, a3), (9, a9)] k2) (p)
theorem e62n19 (K : KTC) (k : KS) (a3 a1 a9 : AV) (c : KN) (p : KV) : b62n19 K k a3 a1 a9 c p = wReg Tryz.prog K [1, 3, 9] o62n19 [(3, a3), (1, a1), (9, a9)] k c p := by unfold b62n19; simp only [xLd_eq, xFld_eq]; kernel_rfl
noncomputable def s62n19 (K : KTC) (e : Env) (k : KS) (c : KN) (p : KV) : Kr := gt e 3 fun a3 => gt e 1 fun a1 => gt e 9 fun a9 => b62n19 K k a3 a1 a9 c p
theorem p62n19 (K : KTC) (K' : KT) (hK : CSound K K') : FitsC Tryz.prog K' (.reg (s62n19 K)) (.reg o62n19 [1, 3, 9]) := fun e k c p y h => by
  obtain ⟨a3, h3, h⟩ := gt_some h
  obtain ⟨a1, h1, h⟩ := gt_some h
  obtain ⟨a9, h9, h⟩ := gt_some h
  exact wreg_fit hK (by decide +kernel) (keep_cons h3 (keep_cons h1 (keep_cons h9 (keep_nil)))) (e62n19 K k a3 a1 a9 c p) h
def o62n20 : List RI := [⟨(some 76), none, (.q (.mov (.t 3)))⟩, ⟨(some 77), none, (.q (.fld 10 10 (.t 1)))⟩, ⟨(some 78), none, (.rd (.ld false 1 (.t 77)))⟩, ⟨(some 79), none, (.q (.len false (.t 78)))⟩, ⟨(some 80), none, (.ac (.callf 81 [(.t 76), (.t 79), (.k (.int .i64 4))]))⟩]
noncomputable def b62n20 (K : KTC) (k : KS) (a3 a1 a9 : AV) (c : KN) (p : KV) : Kr :=
  xFld 10 10 a1 fun v0 =>
  xLd k.t false 1 v0 fun v1 =>
  xLen v1 fun v2 =>
  K 81 [a3, v2, (.sc (.int .i64 4))] k (fun v3 k3 =>
  c [(1, a1), (3, a3), (9, a9)] k3) (p)
theorem e62n20 (K : KTC) (k : KS) (a3 a1 a9 : AV) (c : KN) (p : KV) : b62n20 K k a3 a1 a9 c p = wReg Tryz.prog K [1, 3, 9] o62n20 [(3, a3), (1, a1), (9, a9)] k c p := by unfold b62n20; simp only [xLen_eq, xLd_eq, xFld_eq]; kernel_rfl
noncomputable def s62n20 (K : KTC) (e : Env) (k : KS) (c : KN) (p : KV) : Kr := gt e 3 fun a3 => gt e 1 fun a1 => gt e 9 fun a9 => b62n20 K k a3 a1 a9 c p
theorem p62n20 (K : KTC) (K' : KT) (hK : CSound K K') : FitsC Tryz.prog K' (.reg (s62n20 K)) (.reg o62n20 [1, 3, 9]) := fun e k c p y h => by
  obtain ⟨a3, h3, h⟩ := gt_some h
  obtain ⟨a1, h1, h⟩ := gt_some h
  obtain ⟨a9, h9, h⟩ := gt_some h
  exact wreg_fit hK (by decide +kernel) (keep_cons h3 (keep_cons h1 (keep_cons h9 (keep_nil)))) (e62n20 K k a3 a1 a9 c p) h
def o62n21 : List RI := [⟨(some 5), none, (.q (.mov (.k (.int .i64 0))))⟩]
noncomputable def b62n21 (K : KTC) (k : KS) (a1 a3 a9 : AV) (c : KN) (p : KV) : Kr :=
  c [(1, a1), (3, a3), (5, (.sc (.int .i64 0))), (9, a9)] k
theorem e62n21 (K : KTC) (k : KS) (a1 a3 a9 : AV) (c : KN) (p : KV) : b62n21 K k a1 a3 a9 c p = wReg Tryz.prog K [1, 3, 5, 9] o62n21 [(1, a1), (3, a3), (9, a9)] k c p := by unfold b62n21; kernel_rfl
noncomputable def s62n21 (K : KTC) (e : Env) (k : KS) (c : KN) (p : KV) : Kr := gt e 1 fun a1 => gt e 3 fun a3 => gt e 9 fun a9 => b62n21 K k a1 a3 a9 c p
theorem p62n21 (K : KTC) (K' : KT) (hK : CSound K K') : FitsC Tryz.prog K' (.reg (s62n21 K)) (.reg o62n21 [1, 3, 5, 9]) := fun e k c p y h => by
  obtain ⟨a1, h1, h⟩ := gt_some h
  obtain ⟨a3, h3, h⟩ := gt_some h
  obtain ⟨a9, h9, h⟩ := gt_some h
  exact wreg_fit hK (by decide +kernel) (keep_cons h1 (keep_cons h3 (keep_cons h9 (keep_nil)))) (e62n21 K k a1 a3 a9 c p) h
def o62n22 : List RI := [⟨(some 81), none, (.q (.mov (.t 5)))⟩, ⟨(some 82), none, (.q (.fld 10 10 (.t 1)))⟩, ⟨(some 83), none, (.rd (.ld false 1 (.t 82)))⟩, ⟨(some 84), none, (.q (.len false (.t 83)))⟩, ⟨(some 85), none, (.q (.bin .lss 3 (.t 81) (.t 84)))⟩]
noncomputable def b62n22 (K : KTC) (k : KS) (a5 a1 a3 a9 : AV) (x : Env) (c : KN) (p : KV) : Kr :=
  xFld 10 10 a1 fun v0 =>
  xLd k.t false 1 v0 fun v1 =>
  xLen v1 fun v2 =>
  xLss 3 a5 v2 fun v3 =>
  c (Env.keep ([(1, a1), (3, a3), (5, a5), (9, a9), (85, v3)] ++ x) [1, 3, 5, 7, 9, 85]) k
theorem e62n22 (K : KTC) (k : KS) (a5 a1 a3 a9 : AV) (x : Env) (c : KN) (p : KV) : b62n22 K k a5 a1 a3 a9 x c p = wReg Tryz.prog K [1, 3, 5, 7, 9, 85] o62n22 ([(5, a5), (1, a1), (3, a3), (9, a9)] ++ x) k c p := by unfold b62n22; simp only [xLss_eq, xLen_eq, xLd_eq, xFld_eq]; kernel_rfl
noncomputable def s62n22 (K : KTC) (e : Env) (k : KS) (c : KN) (p : KV) : Kr := gt e 5 fun a5 => gt e 1 fun a1 => gt e 3 fun a3 => gt e 9 fun a9 => b62n22 K k a5 a1 a3 a9 (e.keep [7]) c p
theorem p62n22 (K : KTC) (K' : KT) (hK : CSound K K') : FitsC Tryz.prog K' (.reg (s62n22 K)) (.reg o62n22 [1, 3, 5, 7, 9, 85]) := fun e k c p y h => by
  obtain ⟨a5, h5, h⟩ := gt_some h
  obtain ⟨a1, h1, h⟩ := gt_some h
  obtain ⟨a3, h3, h⟩ := gt_some h
  obtain ⟨a9, h9, h⟩ := gt_some h
  exact wreg_fit hK (by decide +kernel) (keep_cons h5 (keep_cons h1 (keep_cons h3 (keep_cons h9 (rfl))))) (e62n22 K k a5 a1 a3 a9 (e.keep [7]) c p) h
def o62n23 : List RI := [⟨(some 6), none, (.q (.mov (.k (.int .i64 0))))⟩]
noncomputable def b62n23 (K : KTC) (k : KS) (a1 a3 a5 a9 : AV) (c : KN) (p : KV) : Kr :=
  c [(1, a1), (3, a3), (5, a5), (6, (.sc (.int .i64 0))), (9, a9)] k
theorem e62n23 (K : KTC) (k : KS) (a1 a3 a5 a9 : AV) (c : KN) (p : KV) : b62n23 K k a1 a3 a5 a9 c p = wReg Tryz.prog K [1, 3, 5, 6, 9] o62n23 [(1, a1), (3, a3), (5, a5), (9, a9)] k c p := by unfold b62n23; kernel_rfl
noncomputable def s62n23 (K : KTC) (e : Env) (k : KS) (c : KN) (p : KV) : Kr := gt e 1 fun a1 => gt e 3 fun a3 => gt e 5 fun a5 => gt e 9 fun a9 => b62n23 K k a1 a3 a5 a9 c p
theorem p62n23 (K : KTC) (K' : KT) (hK : CSound K K') : FitsC Tryz.prog K' (.reg (s62n23 K)) (.reg o62n23 [1, 3, 5, 6, 9]) := fun e k c p y h => by
  obtain ⟨a1, h1, h⟩ := gt_some h
  obtain ⟨a3, h3, h⟩ := gt_some h
  obtain ⟨a5, h5, h⟩ := gt_some h
  obtain ⟨a9, h9, h⟩ := gt_some h
  exact wreg_fit hK (by decide +kernel) (keep_cons h1 (keep_cons h3 (keep_cons h5 (keep_cons h9 (keep_nil))))) (e62n23 K k a1 a3 a5 a9 c p) h
def o62n24 : List RI := [⟨(some 88), none, (.q (.mov (.t 6)))⟩, ⟨(some 89), none, (.q (.fld 10 10 (.t 1)))⟩, ⟨(some 90), none, (.rd (.ld false 1 (.t 89)))⟩, ⟨(some 91), none, (.q (.mov (.t 5)))⟩, ⟨(some 92), none, (.q (.ixs 1 (.t 90) (.t 91)))⟩, ⟨(some 93), none, (.rd (.ld false 1 (.t 92)))⟩, ⟨(some 94), none, (.q (.len false (.t 93)))⟩, ⟨(some 95), none, (.q (.bin .lss 3 (.t 88) (.t 94)))⟩]
noncomputable def b62n24 (K : KTC) (k : KS) (a6 a1 a5 a3 a9 : AV) (x : Env) (c : KN) (p : KV) : Kr :=
  xFld 10 10 a1 fun v0 =>
  xLd k.t false 1 v0 fun v1 =>
  xIxl k.t 1 false 1 v1 a5 fun v2 =>
  xLen v2 fun v3 =>
  xLss 3 a6 v3 fun v4 =>
  c (Env.keep ([(1, a1), (3, a3), (5, a5), (6, a6), (9, a9), (95, v4)] ++ x) [1, 3, 5, 6, 7, 9, 95]) k
theorem e62n24 (K : KTC) (k : KS) (a6 a1 a5 a3 a9 : AV) (x : Env) (c : KN) (p : KV) : b62n24 K k a6 a1 a5 a3 a9 x c p = wReg Tryz.prog K [1, 3, 5, 6, 7, 9, 95] o62n24 ([(6, a6), (1, a1), (5, a5), (3, a3), (9, a9)] ++ x) k c p := by unfold b62n24; simp only [xLss_eq, xLen_eq, xIxl_eq, xLd_eq, xFld_eq]; kernel_rfl
noncomputable def s62n24 (K : KTC) (e : Env) (k : KS) (c : KN) (p : KV) : Kr := gt e 6 fun a6 => gt e 1 fun a1 => gt e 5 fun a5 => gt e 3 fun a3 => gt e 9 fun a9 => b62n24 K k a6 a1 a5 a3 a9 (e.keep [7]) c p
theorem p62n24 (K : KTC) (K' : KT) (hK : CSound K K') : FitsC Tryz.prog K' (.reg (s62n24 K)) (.reg o62n24 [1, 3, 5, 6, 7, 9, 95]) := fun e k c p y h => by
  obtain ⟨a6, h6, h⟩ := gt_some h
  obtain ⟨a1, h1, h⟩ := gt_some h
  obtain ⟨a5, h5, h⟩ := gt_some h
  obtain ⟨a3, h3, h⟩ := gt_some h
  obtain ⟨a9, h9, h⟩ := gt_some h
  exact wreg_fit hK (by decide +kernel) (keep_cons h6 (keep_cons h1 (keep_cons h5 (keep_cons h3 (keep_cons h9 (rfl)))))) (e62n24 K k a6 a1 a5 a3 a9 (e.keep [7]) c p) h
def o62n25 : List RI := [⟨(some 98), none, (.q (.fld 10 10 (.t 1)))⟩, ⟨(some 99), none, (.rd (.ld false 1 (.t 98)))⟩, ⟨(some 100), none, (.q (.mov (.t 5)))⟩, ⟨(some 101), none, (.q (.ixs 1 (.t 99) (.t 100)))⟩, ⟨(some 102), none, (.rd (.ld false 1 (.t 101)))⟩, ⟨(some 103), none, (.q (.mov (.t 6)))⟩, ⟨(some 104), none, (.q (.ixs 4 (.t 102) (.t 103)))⟩, ⟨(some 105), none, (.rd (.ld true 4 (.t 104)))⟩, ⟨(some 7), none, (.al (.alloc (.agg [1, 3] [(.sc (.bool false)), (.agg [1, 1, 1] [(.sc (.int .i64 0)), (.sc (.int .i64 0)), (.sc (.int .i64 0))])])))⟩, ⟨none, none, (.ac (.st 4 (.t 7) (.t 105)))⟩]
noncomputable def b62n25 (K : KTC) (k : KS) (a1 a5 a6 a3 a9 : AV) (c : KN) (p : KV) : Kr :=
  xFld 10 10 a1 fun v0 =>
  xLd k.t false 1 v0 fun v1 =>
  xIxl k.t 1 false 1 v1 a5 fun v2 =>
  xIxl k.t 4 true 4 v2 a6 fun v3 =>
  xAlloc (.agg [1, 3] [(.sc (.bool false)), (.agg [1, 1, 1] [(.sc (.int .i64 0)), (.sc (.int .i64 0)), (.sc (.int .i64 0))])]) k fun v4 k4 =>
  pCall (kA (fun _ _ _ => none) [(7, v4), (105, v3)] k4 (.st 4 (.t 7) (.t 105))) (fun v5 k5 =>
  c [(1, a1), (3, a3), (5, a5), (6, a6), (7, v4), (9, a9)] k5) (p)
theorem e62n25 (K : KTC) (k : KS) (a1 a5 a6 a3 a9 : AV) (c : KN) (p : KV) : b62n25 K k a1 a5 a6 a3 a9 c p = wReg Tryz.prog K [1, 3, 5, 6, 7, 9] o62n25 [(1, a1), (5, a5), (6, a6), (3, a3), (9, a9)] k c p := by unfold b62n25; simp only [xAlloc_eq, xIxl_eq, xLd_eq, xFld_eq]; kernel_rfl
noncomputable def s62n25 (K : KTC) (e : Env) (k : KS) (c : KN) (p : KV) : Kr := gt e 1 fun a1 => gt e 5 fun a5 => gt e 6 fun a6 => gt e 3 fun a3 => gt e 9 fun a9 => b62n25 K k a1 a5 a6 a3 a9 c p
theorem p62n25 (K : KTC) (K' : KT) (hK : CSound K K') : FitsC Tryz.prog K' (.reg (s62n25 K)) (.reg o62n25 [1, 3, 5, 6, 7, 9]) := fun e k c p y h => by
  obtain ⟨a1, h1, h⟩ := gt_some h
  obtain ⟨a5, h5, h⟩ := gt_some h
  obtain ⟨a6, h6, h⟩ := gt_some h
  obtain ⟨a3, h3, h⟩ := gt_some h
  obtain ⟨a9, h9, h⟩ := gt_some h
  exact wreg_fit hK (by decide +kernel) (keep_cons h1 (keep_cons h5 (keep_cons h6 (keep_cons h3 (keep_cons h9 (keep_nil)))))) (e62n25 K k a1 a5 a6 a3 a9 c p) h
def o62n26 : List RI := [⟨(some 106), none, (.q (.mov (.t 3)))⟩, ⟨(some 107), none, (.q (.fld 0 0 (.t 7)))⟩, ⟨(some 108), none, (.rd (.ld false 1 (.t 107)))⟩, ⟨(some 109), none, (.ac (.callf 100 [(.t 108)]))⟩, ⟨(some 110), none, (.ac (.callf 81 [(.t 106), (.t 109), (.k (.int .i64 1))]))⟩]
noncomputable def b62n26 (K : KTC) (k : KS) (a3 a7 a1 a5 a6 a9 : AV) (c : KN) (p : KV) : Kr :=
  xFld 0 0 a7 fun v0 =>
  xLd k.t false 1 v0 fun v1 =>
  K 100 [v1] k (fun v2 k2 =>
  K 81 [a3, v2, (.sc (.int .i64 1))] k2 (fun v3 k3 =>
  c [(1, a1), (3, a3), (5, a5), (6, a6), (7, a7), (9, a9)] k3) (p)) (p)
theorem e62n26 (K : KTC) (k : KS) (a3 a7 a1 a5 a6 a9 : AV) (c : KN) (p : KV) : b62n26 K k a3 a7 a1 a5 a6 a9 c p = wReg Tryz.prog K [1, 3, 5, 6, 7, 9] o62n26 [(3, a3), (7, a7), (1, a1), (5, a5), (6, a6), (9, a9)] k c p := by unfold b62n26; simp only [xLd_eq, xFld_eq]; kernel_rfl
noncomputable def s62n26 (K : KTC) (e : Env) (k : KS) (c : KN) (p : KV) : Kr := gt e 3 fun a3 => gt e 7 fun a7 => gt e 1 fun a1 => gt e 5 fun a5 => gt e 6 fun a6 => gt e 9 fun a9 => b62n26 K k a3 a7 a1 a5 a6 a9 c p
theorem p62n26 (K : KTC) (K' : KT) (hK : CSound K K') : FitsC Tryz.prog K' (.reg (s62n26 K)) (.reg o62n26 [1, 3, 5, 6, 7, 9]) := fun e k c p y h => by
  obtain ⟨a3, h3, h⟩ := gt_some h
  obtain ⟨a7, h7, h⟩ := gt_some h
  obtain ⟨a1, h1, h⟩ := gt_some h
  obtain ⟨a5, h5, h⟩ := gt_some h
  obtain ⟨a6, h6, h⟩ := gt_some h
  obtain ⟨a9, h9, h⟩ := gt_some h
  exact wreg_fit hK (by decide +kernel) (keep_cons h3 (keep_cons h7 (keep_cons h1 (keep_cons h5 (keep_cons h6 (keep_cons h9 (keep_nil))))))) (e62n26 K k a3 a7 a1 a5 a6 a9 c p) h
def o62n27 : List RI := [⟨(some 111), none, (.q (.fld 0 0 (.t 7)))⟩, ⟨(some 112), none, (.rd (.ld false 1 (.t 111)))⟩]
noncomputable def b62n27 (K : KTC) (k : KS) (a7 a1 a3 a5 a6 a9 : AV) (c : KN) (p : KV) : Kr :=
  xFld 0 0 a7 fun v0 =>
  xLd k.t false 1 v0 fun v1 =>
  c [(1, a1), (3, a3), (5, a5), (6, a6), (7, a7), (9, a9), (112, v1)] k
theorem e62n27 (K : KTC) (k : KS) (a7 a1 a3 a5 a6 a9 : AV) (c : KN) (p : KV) : b62n27 K k a7 a1 a3 a5 a6 a9 c p = wReg Tryz.prog K [1, 3, 5, 6, 7, 9, 112] o62n27 [(7, a7), (1, a1), (3, a3), (5, a5), (6, a6), (9, a9)] k c p := by unfold b62n27; simp only [xLd_eq, xFld_eq]; kernel_rfl
noncomputable def s62n27 (K : KTC) (e : Env) (k : KS) (c : KN) (p : KV) : Kr := gt e 7 fun a7 => gt e 1 fun a1 => gt e 3 fun a3 => gt e 5 fun a5 => gt e 6 fun a6 => gt e 9 fun a9 => b62n27 K k a7 a1 a3 a5 a6 a9 c p
theorem p62n27 (K : KTC) (K' : KT) (hK : CSound K K') : FitsC Tryz.prog K' (.reg (s62n27 K)) (.reg o62n27 [1, 3, 5, 6, 7, 9, 112]) := fun e k c p y h => by
  obtain ⟨a7, h7, h⟩ := gt_some h
  obtain ⟨a1, h1, h⟩ := gt_some h
  obtain ⟨a3, h3, h⟩ := gt_some h
  obtain ⟨a5, h5, h⟩ := gt_some h
  obtain ⟨a6, h6, h⟩ := gt_some h
  obtain ⟨a9, h9, h⟩ := gt_some h
  exact wreg_fit hK (by decide +kernel) (keep_cons h7 (keep_cons h1 (keep_cons h3 (keep_cons h5 (keep_cons h6 (keep_cons h9 (keep_nil))))))) (e62n27 K k a7 a1 a3 a5 a6 a9 c p) h
def o62n28 : List RI := [⟨(some 113), none, (.q (.mov (.t 3)))⟩, ⟨(some 114), none, (.q (.fld 1 1 (.t 7)))⟩, ⟨(some 115), none, (.rd (.ld true 3 (.t 114)))⟩, ⟨(some 116), none, (.ac (.callf 101 [(.t 113), (.t 115)]))⟩]
noncomputable def b62n28 (K : KTC) (k : KS) (a3 a7 a1 a5 a6 a9 : AV) (c : KN) (p : KV) : Kr :=
  xFld 1 1 a7 fun v0 =>
  xLd k.t true 3 v0 fun v1 =>
  K 101 [a3, v1] k (fun v2 k2 =>
  c [(1, a1), (3, a3), (5, a5), (6, a6), (7, a7), (9, a9)] k2) (p)
theorem e62n28 (K : KTC) (k : KS) (a3 a7 a1 a5 a6 a9 : AV) (c : KN) (p : KV) : b62n28 K k a3 a7 a1 a5 a6 a9 c p = wReg Tryz.prog K [1, 3, 5, 6, 7, 9] o62n28 [(3, a3), (7, a7), (1, a1), (5, a5), (6, a6), (9, a9)] k c p := by unfold b62n28; simp only [xLd_eq, xFld_eq]; kernel_rfl
noncomputable def s62n28 (K : KTC) (e : Env) (k : KS) (c : KN) (p : KV) : Kr := gt e 3 fun a3 => gt e 7 fun a7 => gt e 1 fun a1 => gt e 5 fun a5 => gt e 6 fun a6 => gt e 9 fun a9 => b62n28 K k a3 a7 a1 a5 a6 a9 c p
theorem p62n28 (K : KTC) (K' : KT) (hK : CSound K K') : FitsC Tryz.prog K' (.reg (s62n28 K)) (.reg o62n28 [1, 3, 5, 6, 7, 9]) := fun e k c p y h => by
  obtain ⟨a3, h3, h⟩ := gt_some h
  obtain ⟨a7, h7, h⟩ := gt_some h
  obtain ⟨a1, h1, h⟩ := gt_some h
  obtain ⟨a5, h5, h⟩ := gt_some h
  obtain ⟨a6, h6, h⟩ := gt_some h
  obtain ⟨a9, h9, h⟩ := gt_some h
  exact wreg_fit hK (by decide +kernel) (keep_cons h3 (keep_cons h7 (keep_cons h1 (keep_cons h5 (keep_cons h6 (keep_cons h9 (keep_nil))))))) (e62n28 K k a3 a7 a1 a5 a6 a9 c p) h
def o62n29 : List RI := [⟨(some 96), none, (.q (.mov (.t 6)))⟩, ⟨(some 97), none, (.q (.bin .add 3 (.t 96) (.k (.int .i64 1))))⟩, ⟨(some 6), none, (.q (.mov (.t 97)))⟩]
noncomputable def b62n29 (K : KTC) (k : KS) (a6 a1 a3 a5 a7 a9 : AV) (c : KN) (p : KV) : Kr :=
  xAdd 3 a6 (.sc (.int .i64 1)) fun v0 =>
  c [(1, a1), (3, a3), (5, a5), (6, v0), (7, a7), (9, a9)] k
theorem e62n29 (K : KTC) (k : KS) (a6 a1 a3 a5 a7 a9 : AV) (c : KN) (p : KV) : b62n29 K k a6 a1 a3 a5 a7 a9 c p = wReg Tryz.prog K [1, 3, 5, 6, 7, 9] o62n29 [(6, a6), (1, a1), (3, a3), (5, a5), (7, a7), (9, a9)] k c p := by unfold b62n29; simp only [xAdd_eq]; kernel_rfl
noncomputable def s62n29 (K : KTC) (e : Env) (k : KS) (c : KN) (p : KV) : Kr := gt e 6 fun a6 => gt e 1 fun a1 => gt e 3 fun a3 => gt e 5 fun a5 => gt e 7 fun a7 => gt e 9 fun a9 => b62n29 K k a6 a1 a3 a5 a7 a9 c p
theorem p62n29 (K : KTC) (K' : KT) (hK : CSound K K') : FitsC Tryz.prog K' (.reg (s62n29 K)) (.reg o62n29 [1, 3, 5, 6, 7, 9]) := fun e k c p y h => by
  obtain ⟨a6, h6, h⟩ := gt_some h
  obtain ⟨a1, h1, h⟩ := gt_some h
  obtain ⟨a3, h3, h⟩ := gt_some h
  obtain ⟨a5, h5, h⟩ := gt_some h
  obtain ⟨a7, h7, h⟩ := gt_some h
  obtain ⟨a9, h9, h⟩ := gt_some h
  exact wreg_fit hK (by decide +kernel) (keep_cons h6 (keep_cons h1 (keep_cons h3 (keep_cons h5 (keep_cons h7 (keep_cons h9 (keep_nil))))))) (e62n29 K k a6 a1 a3 a5 a7 a9 c p) h
def o62n30 : List RI := [⟨(some 86), none, (.q (.mov (.t 5)))⟩, ⟨(some 87), none, (.q (.bin .add 3 (.t 86) (.k (.int .i64 1))))⟩, ⟨(some 5), none, (.q (.mov (.t 87)))⟩]
noncomputable def b62n30 (K : KTC) (k : KS) (a5 a1 a3 a9 : AV) (x : Env) (c : KN) (p : KV) : Kr :=
  xAdd 3 a5 (.sc (.int .i64 1)) fun v0 =>
  c (Env.keep ([(1, a1), (3, a3), (5, v0), (9, a9)] ++ x) [1, 3, 5, 7, 9]) k
theorem e62n30 (K : KTC) (k : KS) (a5 a1 a3 a9 : AV) (x : Env) (c : KN) (p : KV) : b62n30 K k a5 a1 a3 a9 x c p = wReg Tryz.prog K [1, 3, 5, 7, 9] o62n30 ([(5, a5), (1, a1), (3, a3), (9, a9)] ++ x) k c p := by unfold b62n30; simp only [xAdd_eq]; kernel_rfl
noncomputable def s62n30 (K : KTC) (e : Env) (k : KS) (c : KN) (p : KV) : Kr := gt e 5 fun a5 => gt e 1 fun a1 => gt e 3 fun a3 => gt e 9 fun a9 => b62n30 K k a5 a1 a3 a9 (e.keep [7]) c p
theorem p62n30 (K : KTC) (K' : KT) (hK : CSound K K') : FitsC Tryz.prog K' (.reg (s62n30 K)) (.reg o62n30 [1, 3, 5, 7, 9]) := fun e k c p y h => by
  obtain ⟨a5, h5, h⟩ := gt_some h
  obtain ⟨a1, h1, h⟩ := gt_some h
  obtain ⟨a3, h3, h⟩ := gt_some h
  obtain ⟨a9, h9, h⟩ := gt_some h
  exact wreg_fit hK (by decide +kernel) (keep_cons h5 (keep_cons h1 (keep_cons h3 (keep_cons h9 (rfl))))) (e62n30 K k a5 a1 a3 a9 (e.keep [7]) c p) h
def o62n31 : List RI := [⟨(some 118), none, (.q (.bin .eql 3 (.t 36) (.k (.int .i64 4))))⟩, ⟨(some 117), none, (.q (.mov (.t 118)))⟩]
noncomputable def b62n31 (K : KTC) (k : KS) (a36 a1 a3 a9 : AV) (x : Env) (c : KN) (p : KV) : Kr :=
  xEql 3 a36 (.sc (.int .i64 4)) fun v0 =>
  c (Env.keep ([(1, a1), (3, a3), (9, a9), (117, v0)] ++ x) [1, 3, 7, 9, 117]) k
theorem e62n31 (K : KTC) (k : KS) (a36 a1 a3 a9 : AV) (x : Env) (c : KN) (p : KV) : b62n31 K k a36 a1 a3 a9 x c p = wReg Tryz.prog K [1, 3, 7, 9, 117] o62n31 ([(36, a36), (1, a1), (3, a3), (9, a9)] ++ x) k c p := by unfold b62n31; simp only [xEql_eq]; kernel_rfl
noncomputable def s62n31 (K : KTC) (e : Env) (k : KS) (c : KN) (p : KV) : Kr := gt e 36 fun a36 => gt e 1 fun a1 => gt e 3 fun a3 => gt e 9 fun a9 => b62n31 K k a36 a1 a3 a9 (e.keep [7]) c p
theorem p62n31 (K : KTC) (K' : KT) (hK : CSound K K') : FitsC Tryz.prog K' (.reg (s62n31 K)) (.reg o62n31 [1, 3, 7, 9, 117]) := fun e k c p y h => by
  obtain ⟨a36, h36, h⟩ := gt_some h
  obtain ⟨a1, h1, h⟩ := gt_some h
  obtain ⟨a3, h3, h⟩ := gt_some h
  obtain ⟨a9, h9, h⟩ := gt_some h
  exact wreg_fit hK (by decide +kernel) (keep_cons h36 (keep_cons h1 (keep_cons h3 (keep_cons h9 (rfl))))) (e62n31 K k a36 a1 a3 a9 (e.keep [7]) c p) h
def o62n32 : List RI := [⟨(some 119), none, (.q (.mov (.t 3)))⟩, ⟨(some 120), none, (.q (.fld 11 11 (.t 1)))⟩, ⟨(some 121), none, (.rd (.ld false 1 (.t 120)))⟩, ⟨(some 122), none, (.ac (.callf 81 [(.t 119), (.t 121), (.k (.int .i64 10))]))⟩]
noncomputable def b62n32 (K : KTC) (k : KS) (a3 a1 a9 : AV) (x : Env) (c : KN) (p : KV) : Kr :=
  xFld 11 11 a1 fun v0 =>
  xLd k.t false 1 v0 fun v1 =>
  K 81 [a3, v1, (.sc (.int .i64 10))] k (fun v2 k2 =>
  c (Env.keep ([(1, a1), (3, a3), (9, a9)] ++ x) [1, 3, 7, 9]) k2) (p)
theorem e62n32 (K : KTC) (k : KS) (a3 a1 a9 : AV) (x : Env) (c : KN) (p : KV) : b62n32 K k a3 a1 a9 x c p = wReg Tryz.prog K [1, 3, 7, 9] o62n32 ([(3, a3), (1, a1), (9, a9)] ++ x) k c p := by unfold b62n32; simp only [xLd_eq, xFld_eq]; kernel_rfl
noncomputable def s62n32 (K : KTC) (e : Env) (k : KS) (c : KN) (p : KV) : Kr := gt e 3 fun a3 => gt e 1 fun a1 => gt e 9 fun a9 => b62n32 K k a3 a1 a9 (e.keep [7]) c p
theorem p62n32 (K : KTC) (K' : KT) (hK : CSound K K') : FitsC Tryz.prog K' (.reg (s62n32 K)) (.reg o62n32 [1, 3, 7, 9]) := fun e k c p y h => by
  obtain ⟨a3, h3, h⟩ := gt_some h
  obtain ⟨a1, h1, h⟩ := gt_some h
  obtain ⟨a9, h9, h⟩ := gt_some h
  exact wreg_fit hK (by decide +kernel) (keep_cons h3 (keep_cons h1 (keep_cons h9 (rfl)))) (e62n32 K k a3 a1 a9 (e.keep [7]) c p) h
def o62n33 : List RI := [⟨(some 123), none, (.q (.mov (.t 3)))⟩, ⟨(some 124), none, (.q (.fld 12 12 (.t 1)))⟩, ⟨(some 125), none, (.rd (.ld false 1 (.t 124)))⟩, ⟨(some 126), none, (.ac (.callf 81 [(.t 123), (.t 125), (.k (.int .i64 62))]))⟩]
noncomputable def b62n33 (K : KTC) (k : KS) (a3 a1 a9 : AV) (x : Env) (c : KN) (p : KV) : Kr :=
  xFld 12 12 a1 fun v0 =>
  xLd k.t false 1 v0 fun v1 =>
  K 81 [a3, v1, (.sc (.int .i64 62))] k (fun v2 k2 =>
  c (Env.keep ([(1, a1), (3, a3), (9, a9)] ++ x) [1, 3, 7, 9]) k2) (p)
theorem e62n33 (K : KTC) (k : KS) (a3 a1 a9 : AV) (x : Env) (c : KN) (p : KV) : b62n33 K k a3 a1 a9 x c p = wReg Tryz.prog K [1, 3, 7, 9] o62n33 ([(3, a3), (1, a1), (9, a9)] ++ x) k c p := by unfold b62n33; simp only [xLd_eq, xFld_eq]; kernel_rfl
noncomputable def s62n33 (K : KTC) (e : Env) (k : KS) (c : KN) (p : KV) : Kr := gt e 3 fun a3 => gt e 1 fun a1 => gt e 9 fun a9 => b62n33 K k a3 a1 a9 (e.keep [7]) c p
theorem p62n33 (K : KTC) (K' : KT) (hK : CSound K K') : FitsC Tryz.prog K' (.reg (s62n33 K)) (.reg o62n33 [1, 3, 7, 9]) := fun e k c p y h => by
  obtain ⟨a3, h3, h⟩ := gt_some h
  obtain ⟨a1, h1, h⟩ := gt_some h
  obtain ⟨a9, h9, h⟩ := gt_some h
  exact wreg_fit hK (by decide +kernel) (keep_cons h3 (keep_cons h1 (keep_cons h9 (rfl)))) (e62n33 K k a3 a1 a9 (e.keep [7]) c p) h
def o62n34 : List RI := [⟨(some 127), none, (.q (.mov (.t 3)))⟩, ⟨(some 128), none, (.ac (.callf 83 [(.t 127)]))⟩, ⟨(some 2), none, (.q (.mov (.t 128)))⟩]
noncomputable def b62n34 (K : KTC) (k : KS) (a3 a1 a9 : AV) (x : Env) (c : KN) (p : KV) : Kr :=
  K 83 [a3] k (fun v0 k0 =>
  c (Env.keep ([(1, a1), (2, v0), (9, a9)] ++ x) [1, 2, 7, 9]) k0) (p)
theorem e62n34 (K : KTC) (k : KS) (a3 a1 a9 : AV) (x : Env) (c : KN) (p : KV) : b62n34 K k a3 a1 a9 x c p = wReg Tryz.prog K [1, 2, 7, 9] o62n34 ([(3, a3), (1, a1), (9, a9)] ++ x) k c p := by unfold b62n34; kernel_rfl
noncomputable def s62n34 (K : KTC) (e : Env) (k : KS) (c : KN) (p : KV) : Kr := gt e 3 fun a3 => gt e 1 fun a1 => gt e 9 fun a9 => b62n34 K k a3 a1 a9 (e.keep [7]) c p
theorem p62n34 (K : KTC) (K' : KT) (hK : CSound K K') : FitsC Tryz.prog K' (.reg (s62n34 K)) (.reg o62n34 [1, 2, 7, 9]) := fun e k c p y h => by
  obtain ⟨a3, h3, h⟩ := gt_some h
  obtain ⟨a1, h1, h⟩ := gt_some h
  obtain ⟨a9, h9, h⟩ := gt_some h
  exact wreg_fit hK (by decide +kernel) (keep_cons h3 (keep_cons h1 (keep_cons h9 (rfl)))) (e62n34 K k a3 a1 a9 (e.keep [7]) c p) h
def r62 : RFn := ⟨1, .seq (.reg o62n0 [1, 7]) (.seq (.reg o62n1 [1, 3, 7, 9]) (.seq (.reg o62n2 [1, 3, 7, 9]) (.seq (.reg o62n3 [1, 3, 7, 9]) (.seq (.reg o62n4 [1, 3, 7, 9]) (.seq (.reg o62n5 [1, 3, 7, 9]) (.seq (.reg o62n6 [1, 3, 7, 9]) (.seq (.reg o62n7 [1, 3, 7, 9]) (.seq (.seq (.reg o62n8 [1, 3, 7, 9, 36]) (.block 0 (.seq (.reg o62n9 [1, 3, 7, 9, 36, 37]) (.cond (.t 37) (.seq (.reg o62n10 [1, 3, 7, 9]) (.seq (.reg o62n11 [1, 3, 7, 9]) (.seq (.reg o62n12 [1, 3, 7, 9]) (.seq (.reg o62n13 [1, 3, 4, 7, 9]) (.block 1 (.loop [1, 3, 4, 7, 9] (.seq (.seq (.reg o62n14 [1, 3, 4, 7, 9, 56]) (.cond (.t 56) (.skip) (.exit 1))) (.seq (.block 2 (.reg o62n15 [1, 3, 4, 7, 9])) (.reg o62n16 [1, 3, 4, 7, 9]))))))))) (.seq (.reg o62n17 [1, 3, 7, 9, 36, 66]) (.cond (.t 66) (.seq (.reg o62n18 [1, 3, 9]) (.seq (.reg o62n19 [1, 3, 9]) (.seq (.reg o62n20 [1, 3, 9]) (.seq (.reg o62n21 [1, 3, 5, 9]) (.block 3 (.loop [1, 3, 5, 9] (.free [7] (.seq (.seq (.reg o62n22 [1, 3, 5, 7, 9, 85]) (.cond (.t 85) (.skip) (.exit 3))) (.seq (.block 4 (.seq (.reg o62n23 [1, 3, 5, 6, 9]) (.block 5 (.loop [1, 3, 5, 6, 9] (.free [7] (.seq (.seq (.reg o62n24 [1, 3, 5, 6, 7, 9, 95]) (.cond (.t 95) (.skip) (.exit 5))) (.seq (.block 6 (.seq (.reg o62n25 [1, 3, 5, 6, 7, 9]) (.seq (.reg o62n26 [1, 3, 5, 6, 7, 9]) (.seq (.reg o62n27 [1, 3, 5, 6, 7, 9, 112]) (.cond (.t 112) (.reg o62n28 [1, 3, 5, 6, 7, 9]) (.skip)))))) (.reg o62n29 [1, 3, 5, 6, 7, 9])))))))) (.reg o62n30 [1, 3, 5, 7, 9])))))))))) (.seq (.reg o62n31 [1, 3, 7, 9, 117]) (.cond (.t 117) (.seq (.reg o62n32 [1, 3, 7, 9]) (.reg o62n33 [1, 3, 7, 9])) (.skip))))))))) (.seq (.reg o62n34 [1, 2, 7, 9]) (.ret)))))))))), [.tmp 2], [1, 9, 7]⟩
noncomputable def q62 (K : KTC) : FK := .seq (.reg (s62n0 K)) (.seq (.reg (s62n1 K)) (.seq (.reg (s62n2 K)) (.seq (.reg (s62n3 K)) (.seq (.reg (s62n4 K)) (.seq (.reg (s62n5 K)) (.seq (.reg (s62n6 K)) (.seq (.reg (s62n7 K)) (.seq (.seq (.reg (s62n8 K)) (.block 0 (.seq (.reg (s62n9 K)) (.cond (.t 37) (.seq (.reg (s62n10 K)) (.seq (.reg (s62n11 K)) (.seq (.reg (s62n12 K)) (.seq (.reg (s62n13 K)) (.block 1 (.loop [1, 3, 4, 7, 9] (.seq (.seq (.reg (s62n14 K)) (.cond (.t 56) (.skip) (.exit 1))) (.seq (.block 2 (.reg (s62n15 K))) (.reg (s62n16 K)))))))))) (.seq (.reg (s62n17 K)) (.cond (.t 66) (.seq (.reg (s62n18 K)) (.seq (.reg (s62n19 K)) (.seq (.reg (s62n20 K)) (.seq (.reg (s62n21 K)) (.block 3 (.loop [1, 3, 5, 9] (.free [7] (.seq (.seq (.reg (s62n22 K)) (.cond (.t 85) (.skip) (.exit 3))) (.seq (.block 4 (.seq (.reg (s62n23 K)) (.block 5 (.loop [1, 3, 5, 6, 9] (.free [7] (.seq (.seq (.reg (s62n24 K)) (.cond (.t 95) (.skip) (.exit 5))) (.seq (.block 6 (.seq (.reg (s62n25 K)) (.seq (.reg (s62n26 K)) (.seq (.reg (s62n27 K)) (.cond (.t 112) (.reg (s62n28 K)) (.skip)))))) (.reg (s62n29 K))))))))) (.reg (s62n30 K))))))))))) (.seq (.reg (s62n31 K)) (.cond (.t 117) (.seq (.reg (s62n32 K)) (.reg (s62n33 K))) (.skip))))))))) (.seq (.reg (s62n34 K)) (.ret))))))))))
theorem ok62 (K : KTC) (K' : KT) (hK : CSound K K') : FitsC Tryz.prog K' (q62 K) r62.code := hs (p62n0 K _ hK) (hs (p62n1 K _ hK) (hs (p62n2 K _ hK) (hs (p62n3 K _ hK) (hs (p62n4 K _ hK) (hs (p62n5 K _ hK) (hs (p62n6 K _ hK) (hs (p62n7 K _ hK) (hs (hs (p62n8 K _ hK) (hb (hs (p62n9 K _ hK) (hc (hs (p62n10 K _ hK) (hs (p62n11 K _ hK) (hs (p62n12 K _ hK) (hs (p62n13 K _ hK) (hb (hl (by decide +kernel) (hs (hs (p62n14 K _ hK) (hc (hk) (hx))) (hs (hb (p62n15 K _ hK)) (p62n16 K _ hK))))))))) (hs (p62n17 K _ hK) (hc (hs (p62n18 K _ hK) (hs (p62n19 K _ hK) (hs (p62n20 K _ hK) (hs (p62n21 K _ hK) (hb (hl (by decide +kernel) (hf (hs (hs (p62n22 K _ hK) (hc (hk) (hx))) (hs (hb (hs (p62n23 K _ hK) (hb (hl (by decide +kernel) (hf (hs (hs (p62n24 K _ hK) (hc (hk) (hx))) (hs (hb (hs (p62n25 K _ hK) (hs (p62n26 K _ hK) (hs (p62n27 K _ hK) (hc (p62n28 K _ hK) (hk)))))) (p62n29 K _ hK)))))))) (p62n30 K _ hK)))))))))) (hs (p62n31 K _ hK) (hc (hs (p62n32 K _ hK) (p62n33 K _ hK)) (hk))))))))) (hs (p62n34 K _ hK) (hr))))))))))
noncomputable def g62 : HFn Tryz.prog := ⟨r62, q62, ok62⟩
theorem c62 : chkF Tryz.prog Tryz.f62 r62 = true := by decide +kernel

/-! doubletake/step.Legal -/
def o64n0 : List RI := [⟨(some 1), none, (.al (.box (.t 0)))⟩, ⟨(some 2), none, (.q (.mov (.k (.bool false))))⟩]
noncomputable def b64n0 (K : KTC) (k : KS) (a0 : AV) (c : KN) (p : KV) : Kr :=
  pAl (evAl [(0, a0)] k.nx (.box (.t 0))) k fun v0 k0 =>
  c [(1, v0)] k0
theorem e64n0 (K : KTC) (k : KS) (a0 : AV) (c : KN) (p : KV) : b64n0 K k a0 c p = wReg Tryz.prog K [1] o64n0 [(0, a0)] k c p := by unfold b64n0; kernel_rfl
noncomputable def s64n0 (K : KTC) (e : Env) (k : KS) (c : KN) (p : KV) : Kr := gt e 0 fun a0 => b64n0 K k a0 c p
theorem p64n0 (K : KTC) (K' : KT) (hK : CSound K K') : FitsC Tryz.prog K' (.reg (s64n0 K)) (.reg o64n0 [1]) := fun e k c p y h => by
  obtain ⟨a0, h0, h⟩ := gt_some h
  exact wreg_fit hK (by decide +kernel) (keep_cons h0 (keep_nil)) (e64n0 K k a0 c p) h
def o64n1 : List RI := [⟨(some 6), none, (.q (.fld 1 1 (.t 1)))⟩, ⟨(some 7), none, (.rd (.ld false 1 (.t 6)))⟩, ⟨(some 8), none, (.ac (.callf 102 [(.t 7), (.k (.int .i64 1)), (.k (.int .i64 8))]))⟩, ⟨(some 9), none, (.q (.mov (.t 8)))⟩, ⟨(some 10), (some (9, true)), (.q (.fld 2 2 (.t 1)))⟩, ⟨(some 11), (some (9, true)), (.rd (.ld false 1 (.t 10)))⟩, ⟨(some 12), (some (9, true)), (.ac (.callf 102 [(.t 11), (.k (.int .i64 0)), (.k (.int .i64 60))]))⟩, ⟨(some 13), none, (.q (.pick (.t 9) (.t 12) (.k (.bool false))))⟩, ⟨(some 14), none, (.q (.mov (.t 13)))⟩, ⟨(some 15), (some (14, true)), (.q (.fld 3 3 (.t 1)))⟩, ⟨(some 16), (some (14, true)), (.rd (.ld false 1 (.t 15)))⟩, ⟨(some 17), (some (14, true)), (.ac (.callf 102 [(.t 16), (.k (.int .i64 0)), (.k (.int .i64 100))]))⟩, ⟨(some 18), none, (.q (.pick (.t 14) (.t 17) (.k (.bool false))))⟩, ⟨(some 19), none, (.q (.mov (.t 18)))⟩, ⟨(some 20), (some (19, true)), (.q (.fld 4 4 (.t 1)))⟩, ⟨(some 21), (some (19, true)), (.rd (.ld false 1 (.t 20)))⟩, ⟨(some 22), (some (19, true)), (.ac (.callf 102 [(.t 21), (.k (.int .i64 1)), (.k (.int .i64 600))]))⟩, ⟨(some 23), none, (.q (.pick (.t 19) (.t 22) (.k (.bool false))))⟩, ⟨(some 3), none, (.q (.mov (.t 23)))⟩]
def o64n2 : List RI := [⟨(some 25), none, (.q (.fld 6 6 (.t 1)))⟩, ⟨(some 26), none, (.rd (.ld false 1 (.t 25)))⟩, ⟨(some 27), none, (.q (.fld 7 7 (.t 1)))⟩, ⟨(some 28), none, (.rd (.ld false 1 (.t 27)))⟩, ⟨(some 29), none, (.ac (.callf 65 [(.t 26), (.t 28)]))⟩, ⟨(some 24), none, (.q (.mov (.t 29)))⟩, ⟨(some 30), none, (.q (.ext 0 (.t 24)))⟩, ⟨(some 31), none, (.q (.ext 1 (.t 24)))⟩, ⟨(some 4), none, (.q (.mov (.t 30)))⟩, ⟨(some 5), none, (.q (.mov (.t 31)))⟩]
noncomputable def b64n2 (K : KTC) (k : KS) (a1 a3 : AV) (c : KN) (p : KV) : Kr :=
  xFld 6 6 a1 fun v0 =>
  xLd k.t false 1 v0 fun v1 =>
  xFld 7 7 a1 fun v2 =>
  xLd k.t false 1 v2 fun v3 =>
  K 65 [v1, v3] k (fun v4 k4 =>
  xExt 0 v4 fun v5 =>
  xExt 1 v4 fun v6 =>
  c [(1, a1), (3, a3), (5, v6)] k4) (p)
theorem e64n2 (K : KTC) (k : KS) (a1 a3 : AV) (c : KN) (p : KV) : b64n2 K k a1 a3 c p = wReg Tryz.prog K [1, 3, 5] o64n2 [(1, a1), (3, a3)] k c p := by unfold b64n2; simp only [xExt_eq, xLd_eq, xFld_eq]; kernel_rfl
noncomputable def s64n2 (K : KTC) (e : Env) (k : KS) (c : KN) (p : KV) : Kr := gt e 1 fun a1 => gt e 3 fun a3 => b64n2 K k a1 a3 c p
theorem p64n2 (K : KTC) (K' : KT) (hK : CSound K K') : FitsC Tryz.prog K' (.reg (s64n2 K)) (.reg o64n2 [1, 3, 5]) := fun e k c p y h => by
  obtain ⟨a1, h1, h⟩ := gt_some h
  obtain ⟨a3, h3, h⟩ := gt_some h
  exact wreg_fit hK (by decide +kernel) (keep_cons h1 (keep_cons h3 (keep_nil))) (e64n2 K k a1 a3 c p) h
def o64n3 : List RI := [⟨(some 32), none, (.q (.fld 0 0 (.t 1)))⟩, ⟨(some 33), none, (.rd (.ld false 1 (.t 32)))⟩, ⟨(some 34), none, (.ac (.callf 102 [(.t 33), (.k (.int .i64 1)), (.k (.int .i64 8))]))⟩, ⟨(some 35), none, (.q (.mov (.t 34)))⟩, ⟨(some 36), (some (35, true)), (.q (.mov (.t 3)))⟩, ⟨(some 37), none, (.q (.pick (.t 35) (.t 36) (.k (.bool false))))⟩, ⟨(some 38), none, (.q (.mov (.t 37)))⟩, ⟨(some 39), (some (38, true)), (.q (.fld 5 5 (.t 1)))⟩, ⟨(some 40), (some (38, true)), (.rd (.ld false 1 (.t 39)))⟩, ⟨(some 41), (some (38, true)), (.ac (.callf 102 [(.t 40), (.k (.int .i64 0)), (.k (.int .i64 2147483647))]))⟩, ⟨(some 42), none, (.q (.pick (.t 38) (.t 41) (.k (.bool false))))⟩, ⟨(some 43), none, (.q (.mov (.t 42)))⟩, ⟨(some 44), (some (43, true)), (.q (.mov (.t 5)))⟩, ⟨(some 45), (some (43, true)), (.q (.bin .eql 23 (.t 44) (.k (.int .i64 0))))⟩, ⟨(some 46), none, (.q (.pick (.t 43) (.t 45) (.k (.bool false))))⟩, ⟨(some 47), none, (.q (.mov (.t 46)))⟩, ⟨(some 48), (some (47, true)), (.q (.fld 8 8 (.t 1)))⟩, ⟨(some 49), (some (47, true)), (.rd (.ld false 1 (.t 48)))⟩, ⟨(some 50), (some (47, true)), (.ac (.callf 103 [(.t 49)]))⟩, ⟨(some 51), none, (.q (.pick (.t 47) (.t 50) (.k (.bool false))))⟩, ⟨(some 52), none, (.q (.mov (.t 51)))⟩, ⟨(some 53), (some (52, true)), (.rd (.ld true 10 (.t 1)))⟩, ⟨(some 54), (some (52, true)), (.ac (.callf 104 [(.t 53)]))⟩, ⟨(some 55), none, (.q (.pick (.t 52) (.t 54) (.k (.bool false))))⟩, ⟨(some 2), none, (.q (.mov (.t 55)))⟩]
def r64 : RFn := ⟨1, .seq (.reg o64n0 [1]) (.seq (.reg o64n1 [1, 3]) (.seq (.reg o64n2 [1, 3, 5]) (.seq (.reg o64n3 [1, 2]) (.ret)))), [.tmp 2], [1]⟩
noncomputable def q64 (K : KTC) : FK := .seq (.reg (s64n0 K)) (.seq (.reg fun e k c p => wReg Tryz.prog K [1, 3] o64n1 e k c p) (.seq (.reg (s64n2 K)) (.seq (.reg fun e k c p => wReg Tryz.prog K [1, 2] o64n3 e k c p) (.ret))))
theorem ok64 (K : KTC) (K' : KT) (hK : CSound K K') : FitsC Tryz.prog K' (q64 K) r64.code := hs (p64n0 K _ hK) (hs (wslow_reg hK) (hs (p64n2 K _ hK) (hs (wslow_reg hK) (hr))))
noncomputable def g64 : HFn Tryz.prog := ⟨r64, q64, ok64⟩
theorem c64 : chkF Tryz.prog Tryz.f64 r64 = true := by decide +kernel

/-- doubletake/bucket.New -/
def r65 : RFn := ⟨2,
  .seq (
  .reg [⟨(some 4), none, (.q (.mov .nilp))⟩,
    ⟨(some 5), none, (.q (.mov (.k (.int .i64 0))))⟩] [0, 1]) (
  .seq (
  .seq (
  .reg [⟨(some 6), none, (.q (.mov (.t 0)))⟩,
    ⟨(some 7), none, (.ac (.callf 105 [(.t 6)]))⟩,
    ⟨(some 8), none, (.q (.mov (.t 7)))⟩,
    ⟨(some 9), (some (8, false)), (.q (.mov (.t 1)))⟩,
    ⟨(some 10), (some (8, false)), (.ac (.callf 105 [(.t 9)]))⟩,
    ⟨(some 11), none, (.q (.pick (.t 8) (.k (.bool true)) (.t 10)))⟩,
    ⟨(some 12), none, (.q (.mov (.t 11)))⟩,
    ⟨(some 13), (some (12, false)), (.q (.mov (.t 0)))⟩,
    ⟨(some 14), (some (12, false)), (.q (.bin .lss 26 (.t 13) (.k (.float .f64 0))))⟩,
    ⟨(some 15), none, (.q (.pick (.t 12) (.k (.bool true)) (.t 14)))⟩,
    ⟨(some 16), none, (.q (.mov (.t 15)))⟩,
    ⟨(some 17), (some (16, false)), (.q (.mov (.t 1)))⟩,
    ⟨(some 18), (some (16, false)), (.q (.bin .lss 26 (.t 17) (.k (.float .f64 4607182418800017408))))⟩,
    ⟨(some 19), none, (.q (.pick (.t 16) (.k (.bool true)) (.t 18)))⟩,
    ⟨(some 20), none, (.q (.mov (.t 19)))⟩,
    ⟨(some 21), (some (20, false)), (.q (.mov (.t 1)))⟩,
    ⟨(some 22), (some (20, false)), (.q (.bin .gtr 26 (.t 21) (.k (.float .f64 4652007308841189376))))⟩,
    ⟨(some 23), none, (.q (.pick (.t 20) (.k (.bool true)) (.t 22)))⟩] [0, 1, 23]) (
  .cond (.t 23) (
   .seq (
   .reg [⟨(some 4), none, (.q (.mov .nilp))⟩,
     ⟨(some 5), none, (.q (.mov (.k (.int .i64 1))))⟩] [4, 5]) (
   .ret)) (
   .skip))) (
  .seq (
  .reg [⟨(some 24), none, (.q (.mov (.t 0)))⟩,
    ⟨(some 25), none, (.q (.mov (.t 1)))⟩,
    ⟨(some 26), none, (.q (.mov (.t 1)))⟩,
    ⟨(some 27), none, (.q (.bld (.agg [1, 1, 1, 1] [(.sc (.float .f64 0)), (.sc (.float .f64 0)), (.sc (.float .f64 0)), (.sc (.int .i64 0))]) [(0, (.t 24)), (1, (.t 25)), (2, (.t 26))]))⟩,
    ⟨(some 28), none, (.al (.box (.t 27)))⟩,
    ⟨(some 4), none, (.q (.mov (.t 28)))⟩,
    ⟨(some 5), none, (.q (.mov (.k (.int .i64 0))))⟩] [4, 5]) (
  .ret))),
  [.tmp 4, .tmp 5], []⟩
noncomputable def g65 : HFn Tryz.prog := ⟨r65, fun K => wslow Tryz.prog K r65.code, fun _ _ hK => wslow_fits hK _ (by decide +kernel)⟩
theorem c65 : chkF Tryz.prog Tryz.f65 r65 = true := by decide +kernel

/-- doubletake/dice.Seed -/
def r66 : RFn := ⟨1,
  .seq (
  .reg [⟨(some 2), none, (.q (.mov (.k (.int .u64 0))))⟩] [0]) (
  .seq (
  .reg [⟨(some 3), none, (.q (.mov (.t 0)))⟩,
    ⟨(some 4), none, (.q (.conv 3 39 (.t 3)))⟩,
    ⟨(some 5), none, (.q (.bin .mul 39 (.t 4) (.k (.int .u64 2))))⟩,
    ⟨(some 6), none, (.q (.bin .add 39 (.t 5) (.k (.int .u64 1))))⟩,
    ⟨(some 2), none, (.q (.mov (.t 6)))⟩] [2]) (
  .ret)),
  [.tmp 2], []⟩
noncomputable def g66 : HFn Tryz.prog := ⟨r66, fun K => wslow Tryz.prog K r66.code, fun _ _ hK => wslow_fits hK _ (by decide +kernel)⟩
theorem c66 : chkF Tryz.prog Tryz.f66 r66 = true := by decide +kernel

/-- doubletake/body.Born -/
def r67 : RFn := ⟨2,
  .seq (
  .reg [⟨(some 4), none, (.al (.alloc (.agg [1, 1, 1, 1, 1, 1, 1, 4, 1] [(.sc (.int .i64 0)), (.sc (.int .i64 0)), (.sc (.int .i64 0)), (.sc (.int .i64 0)), (.sc (.int .i64 0)), (.sc (.int .i64 0)), (.sc (.int .i64 0)), (.arr 1 (List.replicate 4 (.sc (.int .i64 0)))), (.sc (.int .i64 0))])))⟩] [0, 1, 4]) (
  .seq (
  .reg [⟨(some 5), none, (.q (.mov (.t 1)))⟩,
    ⟨(some 6), none, (.ac (.callf 106 [(.t 5), (.k (.int .i64 1)), (.k (.int .i64 8))]))⟩,
    ⟨(some 1), none, (.q (.mov (.t 6)))⟩] [0, 1, 4]) (
  .seq (
  .reg [⟨(some 7), none, (.q (.mov (.t 0)))⟩,
    ⟨(some 8), none, (.q (.mov (.t 1)))⟩,
    ⟨(some 9), none, (.q (.bin .sub 3 (.t 8) (.k (.int .i64 1))))⟩,
    ⟨(some 10), none, (.ac (.callf 106 [(.t 7), (.k (.int .i64 0)), (.t 9)]))⟩,
    ⟨(some 0), none, (.q (.mov (.t 10)))⟩] [0, 1, 4]) (
  .seq (
  .reg [⟨(some 11), none, (.q (.mov (.t 0)))⟩,
    ⟨(some 12), none, (.q (.mov (.t 0)))⟩,
    ⟨(some 13), none, (.q (.bin .mul 3 (.k (.int .i64 2)) (.t 12)))⟩,
    ⟨(some 14), none, (.q (.bin .add 3 (.t 13) (.k (.int .i64 1))))⟩,
    ⟨(some 15), none, (.q (.bin .mul 3 (.t 14) (.k (.int .i64 4096))))⟩,
    ⟨(some 16), none, (.q (.mov (.t 1)))⟩,
    ⟨(some 17), none, (.q (.bin .mul 3 (.k (.int .i64 2)) (.t 16)))⟩,
    ⟨(some 18), none, (.q (.bin .quo 3 (.t 15) (.t 17)))⟩,
    ⟨(some 19), none, (.q (.bld (.agg [1, 1, 1, 1, 1, 1, 1, 4, 1] [(.sc (.int .i64 0)), (.sc (.int .i64 0)), (.sc (.int .i64 0)), (.sc (.int .i64 0)), (.sc (.int .i64 0)), (.sc (.int .i64 0)), (.sc (.int .i64 0)), (.arr 1 (List.replicate 4 (.sc (.int .i64 0)))), (.sc (.int .i64 0))]) [(0, (.k (.int .i64 1))), (1, (.t 11)), (2, (.t 18)), (3, (.k (.int .i64 2048)))]))⟩,
    ⟨none, none, (.ac (.st 12 (.t 4) (.t 19)))⟩] [4]) (
  .ret)))),
  [.cell 4 true 12], [4]⟩
noncomputable def g67 : HFn Tryz.prog := ⟨r67, fun K => wslow Tryz.prog K r67.code, fun _ _ hK => wslow_fits hK _ (by decide +kernel)⟩
theorem c67 : chkF Tryz.prog Tryz.f67 r67 = true := by decide +kernel

/-! doubletake/state.Lay -/
def o68n0 : List RI := [⟨(some 2), none, (.al (.box (.t 0)))⟩, ⟨(some 3), none, (.al (.box (.t 1)))⟩, ⟨(some 4), none, (.q (.mov .nils))⟩, ⟨(some 5), none, (.q (.mov (.k (.int .i64 0))))⟩]
noncomputable def b68n0 (K : KTC) (k : KS) (a0 a1 : AV) (x : Env) (c : KN) (p : KV) : Kr :=
  pAl (evAl [(0, a0)] k.nx (.box (.t 0))) k fun v0 k0 =>
  pAl (evAl [(1, a1)] k0.nx (.box (.t 1))) k0 fun v1 k1 =>
  c (Env.keep ([(2, v0), (3, v1)] ++ x) [2, 3, 8]) k1
theorem e68n0 (K : KTC) (k : KS) (a0 a1 : AV) (x : Env) (c : KN) (p : KV) : b68n0 K k a0 a1 x c p = wReg Tryz.prog K [2, 3, 8] o68n0 ([(0, a0), (1, a1)] ++ x) k c p := by unfold b68n0; kernel_rfl
noncomputable def s68n0 (K : KTC) (e : Env) (k : KS) (c : KN) (p : KV) : Kr := gt e 0 fun a0 => gt e 1 fun a1 => b68n0 K k a0 a1 (e.keep [8]) c p
theorem p68n0 (K : KTC) (K' : KT) (hK : CSound K K') : FitsC Tryz.prog K' (.reg (s68n0 K)) (.reg o68n0 [2, 3, 8]) := fun e k c p y h => by
  obtain ⟨a0, h0, h⟩ := gt_some h
  obtain ⟨a1, h1, h⟩ := gt_some h
  exact wreg_fit hK (by decide +kernel) (keep_cons h0 (keep_cons h1 (rfl))) (e68n0 K k a0 a1 (e.keep [8]) c p) h
def o68n1 : List RI := [⟨(some 11), none, (.rd (.ld true 10 (.t 2)))⟩, ⟨(some 12), none, (.rd (.ld true 202 (.t 3)))⟩, ⟨(some 13), none, (.ac (.callf 107 [(.t 11), (.t 12)]))⟩, ⟨(some 14), none, (.q (.un .not (.t 13)))⟩]
noncomputable def b68n1 (K : KTC) (k : KS) (a2 a3 : AV) (x : Env) (c : KN) (p : KV) : Kr :=
  xLd k.t true 10 a2 fun v0 =>
  xLd k.t true 202 a3 fun v1 =>
  K 107 [v0, v1] k (fun v2 k2 =>
  (kQ Tryz.prog [(13, v2)] (.un .not (.t 13))).bind fun v3 =>
  c (Env.keep ([(2, a2), (3, a3), (14, v3)] ++ x) [2, 3, 8, 14]) k2) (p)
theorem e68n1 (K : KTC) (k : KS) (a2 a3 : AV) (x : Env) (c : KN) (p : KV) : b68n1 K k a2 a3 x c p = wReg Tryz.prog K [2, 3, 8, 14] o68n1 ([(2, a2), (3, a3)] ++ x) k c p := by unfold b68n1; simp only [xLd_eq]; kernel_rfl
noncomputable def s68n1 (K : KTC) (e : Env) (k : KS) (c : KN) (p : KV) : Kr := gt e 2 fun a2 => gt e 3 fun a3 => b68n1 K k a2 a3 (e.keep [8]) c p
theorem p68n1 (K : KTC) (K' : KT) (hK : CSound K K') : FitsC Tryz.prog K' (.reg (s68n1 K)) (.reg o68n1 [2, 3, 8, 14]) := fun e k c p y h => by
  obtain ⟨a2, h2, h⟩ := gt_some h
  obtain ⟨a3, h3, h⟩ := gt_some h
  exact wreg_fit hK (by decide +kernel) (keep_cons h2 (keep_cons h3 (rfl))) (e68n1 K k a2 a3 (e.keep [8]) c p) h
def o68n2 : List RI := [⟨(some 4), none, (.q (.mov .nils))⟩, ⟨(some 5), none, (.q (.mov (.k (.int .i64 1))))⟩]
noncomputable def b68n2 (K : KTC) (k : KS) (a2 a3 : AV) (x : Env) (c : KN) (p : KV) : Kr :=
  c (Env.keep ([(2, a2), (3, a3), (4, (.slice none 0)), (5, (.sc (.int .i64 1)))] ++ x) [2, 3, 4, 5, 8]) k
theorem e68n2 (K : KTC) (k : KS) (a2 a3 : AV) (x : Env) (c : KN) (p : KV) : b68n2 K k a2 a3 x c p = wReg Tryz.prog K [2, 3, 4, 5, 8] o68n2 ([(2, a2), (3, a3)] ++ x) k c p := by unfold b68n2; kernel_rfl
noncomputable def s68n2 (K : KTC) (e : Env) (k : KS) (c : KN) (p : KV) : Kr := gt e 2 fun a2 => gt e 3 fun a3 => b68n2 K k a2 a3 (e.keep [8]) c p
theorem p68n2 (K : KTC) (K' : KT) (hK : CSound K K') : FitsC Tryz.prog K' (.reg (s68n2 K)) (.reg o68n2 [2, 3, 4, 5, 8]) := fun e k c p y h => by
  obtain ⟨a2, h2, h⟩ := gt_some h
  obtain ⟨a3, h3, h⟩ := gt_some h
  exact wreg_fit hK (by decide +kernel) (keep_cons h2 (keep_cons h3 (rfl))) (e68n2 K k a2 a3 (e.keep [8]) c p) h
def o68n3 : List RI := [⟨(some 15), none, (.ac (.callf 108 []))⟩, ⟨(some 6), none, (.q (.mov (.t 15)))⟩]
noncomputable def b68n3 (K : KTC) (k : KS) (a2 a3 : AV) (c : KN) (p : KV) : Kr :=
  K 108 [] k (fun v0 k0 =>
  c [(2, a2), (3, a3), (6, v0)] k0) (p)
theorem e68n3 (K : KTC) (k : KS) (a2 a3 : AV) (c : KN) (p : KV) : b68n3 K k a2 a3 c p = wReg Tryz.prog K [2, 3, 6] o68n3 [(2, a2), (3, a3)] k c p := by unfold b68n3; kernel_rfl
noncomputable def s68n3 (K : KTC) (e : Env) (k : KS) (c : KN) (p : KV) : Kr := gt e 2 fun a2 => gt e 3 fun a3 => b68n3 K k a2 a3 c p
theorem p68n3 (K : KTC) (K' : KT) (hK : CSound K K') : FitsC Tryz.prog K' (.reg (s68n3 K)) (.reg o68n3 [2, 3, 6]) := fun e k c p y h => by
  obtain ⟨a2, h2, h⟩ := gt_some h
  obtain ⟨a3, h3, h⟩ := gt_some h
  exact wreg_fit hK (by decide +kernel) (keep_cons h2 (keep_cons h3 (keep_nil))) (e68n3 K k a2 a3 c p) h
def o68n4 : List RI := [⟨(some 16), none, (.q (.mov (.t 6)))⟩, ⟨(some 17), none, (.q (.fld 0 0 (.t 3)))⟩, ⟨(some 18), none, (.rd (.ld false 1 (.t 17)))⟩, ⟨(some 19), none, (.q (.conv 3 39 (.t 18)))⟩, ⟨(some 20), none, (.ac (.callf 109 [(.t 16), (.t 19), (.k (.int .i64 10))]))⟩]
noncomputable def b68n4 (K : KTC) (k : KS) (a6 a3 a2 : AV) (c : KN) (p : KV) : Kr :=
  xFld 0 0 a3 fun v0 =>
  xLd k.t false 1 v0 fun v1 =>
  xConv 3 39 v1 fun v2 =>
  K 109 [a6, v2, (.sc (.int .i64 10))] k (fun v3 k3 =>
  c [(2, a2), (3, a3), (6, a6)] k3) (p)
theorem e68n4 (K : KTC) (k : KS) (a6 a3 a2 : AV) (c : KN) (p : KV) : b68n4 K k a6 a3 a2 c p = wReg Tryz.prog K [2, 3, 6] o68n4 [(6, a6), (3, a3), (2, a2)] k c p := by unfold b68n4; simp only [xConv_eq, xLd_eq, xFld_eq]; kernel_rfl
noncomputable def s68n4 (K : KTC) (e : Env) (k : KS) (c : KN) (p : KV) : Kr := gt e 6 fun a6 => gt e 3 fun a3 => gt e 2 fun a2 => b68n4 K k a6 a3 a2 c p
theorem p68n4 (K : KTC) (K' : KT) (hK : CSound K K') : FitsC Tryz.prog K' (.reg (s68n4 K)) (.reg o68n4 [2, 3, 6]) := fun e k c p y h => by
  obtain ⟨a6, h6, h⟩ := gt_some h
  obtain ⟨a3, h3, h⟩ := gt_some h
  obtain ⟨a2, h2, h⟩ := gt_some h
  exact wreg_fit hK (by decide +kernel) (keep_cons h6 (keep_cons h3 (keep_cons h2 (keep_nil)))) (e68n4 K k a6 a3 a2 c p) h
def o68n5 : List RI := [⟨(some 21), none, (.q (.mov (.t 6)))⟩, ⟨(some 22), none, (.q (.fld 1 1 (.t 3)))⟩, ⟨(some 23), none, (.rd (.ld false 1 (.t 22)))⟩, ⟨(some 24), none, (.ac (.callf 109 [(.t 21), (.t 23), (.k (.int .i64 64))]))⟩]
noncomputable def b68n5 (K : KTC) (k : KS) (a6 a3 a2 : AV) (c : KN) (p : KV) : Kr :=
  xFld 1 1 a3 fun v0 =>
  xLd k.t false 1 v0 fun v1 =>
  K 109 [a6, v1, (.sc (.int .i64 64))] k (fun v2 k2 =>
  c [(2, a2), (3, a3), (6, a6)] k2) (p)
theorem e68n5 (K : KTC) (k : KS) (a6 a3 a2 : AV) (c : KN) (p : KV) : b68n5 K k a6 a3 a2 c p = wReg Tryz.prog K [2, 3, 6] o68n5 [(6, a6), (3, a3), (2, a2)] k c p := by unfold b68n5; simp only [xLd_eq, xFld_eq]; kernel_rfl
noncomputable def s68n5 (K : KTC) (e : Env) (k : KS) (c : KN) (p : KV) : Kr := gt e 6 fun a6 => gt e 3 fun a3 => gt e 2 fun a2 => b68n5 K k a6 a3 a2 c p
theorem p68n5 (K : KTC) (K' : KT) (hK : CSound K K') : FitsC Tryz.prog K' (.reg (s68n5 K)) (.reg o68n5 [2, 3, 6]) := fun e k c p y h => by
  obtain ⟨a6, h6, h⟩ := gt_some h
  obtain ⟨a3, h3, h⟩ := gt_some h
  obtain ⟨a2, h2, h⟩ := gt_some h
  exact wreg_fit hK (by decide +kernel) (keep_cons h6 (keep_cons h3 (keep_cons h2 (keep_nil)))) (e68n5 K k a6 a3 a2 c p) h
def o68n6 : List RI := [⟨(some 25), none, (.q (.fld 2 2 (.t 3)))⟩, ⟨(some 26), none, (.rd (.ld true 192 (.t 25)))⟩, ⟨(some 27), none, (.q (.mov (.k (.int .i64 0))))⟩]
noncomputable def b68n6 (K : KTC) (k : KS) (a3 a2 a6 : AV) (c : KN) (p : KV) : Kr :=
  xFld 2 2 a3 fun v0 =>
  xLd k.t true 192 v0 fun v1 =>
  c [(2, a2), (3, a3), (6, a6), (26, v1), (27, (.sc (.int .i64 0)))] k
theorem e68n6 (K : KTC) (k : KS) (a3 a2 a6 : AV) (c : KN) (p : KV) : b68n6 K k a3 a2 a6 c p = wReg Tryz.prog K [2, 3, 6, 26, 27] o68n6 [(3, a3), (2, a2), (6, a6)] k c p := by unfold b68n6; simp only [xLd_eq, xFld_eq]; kernel_rfl
noncomputable def s68n6 (K : KTC) (e : Env) (k : KS) (c : KN) (p : KV) : Kr := gt e 3 fun a3 => gt e 2 fun a2 => gt e 6 fun a6 => b68n6 K k a3 a2 a6 c p
theorem p68n6 (K : KTC) (K' : KT) (hK : CSound K K') : FitsC Tryz.prog K' (.reg (s68n6 K)) (.reg o68n6 [2, 3, 6, 26, 27]) := fun e k c p y h => by
  obtain ⟨a3, h3, h⟩ := gt_some h
  obtain ⟨a2, h2, h⟩ := gt_some h
  obtain ⟨a6, h6, h⟩ := gt_some h
  exact wreg_fit hK (by decide +kernel) (keep_cons h3 (keep_cons h2 (keep_cons h6 (keep_nil)))) (e68n6 K k a3 a2 a6 c p) h
def o68n7 : List RI := [⟨(some 28), none, (.q (.bin .lss 3 (.t 27) (.k (.int .i64 16))))⟩]
noncomputable def b68n7 (K : KTC) (k : KS) (a27 a2 a3 a6 a26 : AV) (x : Env) (c : KN) (p : KV) : Kr :=
  xLss 3 a27 (.sc (.int .i64 16)) fun v0 =>
  c (Env.keep ([(2, a2), (3, a3), (6, a6), (26, a26), (27, a27), (28, v0)] ++ x) [2, 3, 6, 8, 26, 27, 28]) k
theorem e68n7 (K : KTC) (k : KS) (a27 a2 a3 a6 a26 : AV) (x : Env) (c : KN) (p : KV) : b68n7 K k a27 a2 a3 a6 a26 x c p = wReg Tryz.prog K [2, 3, 6, 8, 26, 27, 28] o68n7 ([(27, a27), (2, a2), (3, a3), (6, a6), (26, a26)] ++ x) k c p := by unfold b68n7; simp only [xLss_eq]; kernel_rfl
noncomputable def s68n7 (K : KTC) (e : Env) (k : KS) (c : KN) (p : KV) : Kr := gt e 27 fun a27 => gt e 2 fun a2 => gt e 3 fun a3 => gt e 6 fun a6 => gt e 26 fun a26 => b68n7 K k a27 a2 a3 a6 a26 (e.keep [8]) c p
theorem p68n7 (K : KTC) (K' : KT) (hK : CSound K K') : FitsC Tryz.prog K' (.reg (s68n7 K)) (.reg o68n7 [2, 3, 6, 8, 26, 27, 28]) := fun e k c p y h => by
  obtain ⟨a27, h27, h⟩ := gt_some h
  obtain ⟨a2, h2, h⟩ := gt_some h
  obtain ⟨a3, h3, h⟩ := gt_some h
  obtain ⟨a6, h6, h⟩ := gt_some h
  obtain ⟨a26, h26, h⟩ := gt_some h
  exact wreg_fit hK (by decide +kernel) (keep_cons h27 (keep_cons h2 (keep_cons h3 (keep_cons h6 (keep_cons h26 (rfl)))))) (e68n7 K k a27 a2 a3 a6 a26 (e.keep [8]) c p) h
def o68n8 : List RI := [⟨(some 29), none, (.q (.ixv 16 12 true (.t 26) (.t 27)))⟩, ⟨(some 8), none, (.al (.alloc (.agg [1, 1, 1, 1, 1, 1, 1, 4, 1] [(.sc (.int .i64 0)), (.sc (.int .i64 0)), (.sc (.int .i64 0)), (.sc (.int .i64 0)), (.sc (.int .i64 0)), (.sc (.int .i64 0)), (.sc (.int .i64 0)), (.arr 1 (List.replicate 4 (.sc (.int .i64 0)))), (.sc (.int .i64 0))])))⟩, ⟨none, none, (.ac (.st 12 (.t 8) (.t 29)))⟩]
noncomputable def b68n8 (K : KTC) (k : KS) (a26 a27 a2 a3 a6 : AV) (c : KN) (p : KV) : Kr :=
  (kQ Tryz.prog [(26, a26), (27, a27)] (.ixv 16 12 true (.t 26) (.t 27))).bind fun v0 =>
  xAlloc (.agg [1, 1, 1, 1, 1, 1, 1, 4, 1] [(.sc (.int .i64 0)), (.sc (.int .i64 0)), (.sc (.int .i64 0)), (.sc (.int .i64 0)), (.sc (.int .i64 0)), (.sc (.int .i64 0)), (.sc (.int .i64 0)), (.arr 1 (List.replicate 4 (.sc (.int .i64 0)))), (.sc (.int .i64 0))]) k fun v1 k1 =>
  pCall (kA (fun _ _ _ => none) [(8, v1), (29, v0)] k1 (.st 12 (.t 8) (.t 29))) (fun v2 k2 =>
  c [(2, a2), (3, a3), (6, a6), (8, v1), (26, a26), (27, a27)] k2) (p)
theorem e68n8 (K : KTC) (k : KS) (a26 a27 a2 a3 a6 : AV) (c : KN) (p : KV) : b68n8 K k a26 a27 a2 a3 a6 c p = wReg Tryz.prog K [2, 3, 6, 8, 26, 27] o68n8 [(26, a26), (27, a27), (2, a2), (3, a3), (6, a6)] k c p := by unfold b68n8; simp only [xAlloc_eq]; kernel_rfl
noncomputable def s68n8 (K : KTC) (e : Env) (k : KS) (c : KN) (p : KV) : Kr := gt e 26 fun a26 => gt e 27 fun a27 => gt e 2 fun a2 => gt e 3 fun a3 => gt e 6 fun a6 => b68n8 K k a26 a27 a2 a3 a6 c p
theorem p68n8 (K : KTC) (K' : KT) (hK : CSound K K') : FitsC Tryz.prog K' (.reg (s68n8 K)) (.reg o68n8 [2, 3, 6, 8, 26, 27]) := fun e k c p y h => by
  obtain ⟨a26, h26, h⟩ := gt_some h
  obtain ⟨a27, h27, h⟩ := gt_some h
  obtain ⟨a2, h2, h⟩ := gt_some h
  obtain ⟨a3, h3, h⟩ := gt_some h
  obtain ⟨a6, h6, h⟩ := gt_some h
  exact wreg_fit hK (by decide +kernel) (keep_cons h26 (keep_cons h27 (keep_cons h2 (keep_cons h3 (keep_cons h6 (keep_nil)))))) (e68n8 K k a26 a27 a2 a3 a6 c p) h
def o68n9 : List RI := [⟨(some 30), none, (.q (.mov (.t 6)))⟩, ⟨(some 31), none, (.rd (.ld true 12 (.t 8)))⟩, ⟨(some 32), none, (.ac (.callf 110 [(.t 30), (.t 31)]))⟩]
noncomputable def b68n9 (K : KTC) (k : KS) (a6 a8 a2 a3 a26 a27 : AV) (c : KN) (p : KV) : Kr :=
  xLd k.t true 12 a8 fun v0 =>
  K 110 [a6, v0] k (fun v1 k1 =>
  c [(2, a2), (3, a3), (6, a6), (8, a8), (26, a26), (27, a27)] k1) (p)
theorem e68n9 (K : KTC) (k : KS) (a6 a8 a2 a3 a26 a27 : AV) (c : KN) (p : KV) : b68n9 K k a6 a8 a2 a3 a26 a27 c p = wReg Tryz.prog K [2, 3, 6, 8, 26, 27] o68n9 [(6, a6), (8, a8), (2, a2), (3, a3), (26, a26), (27, a27)] k c p := by unfold b68n9; simp only [xLd_eq]; kernel_rfl
noncomputable def s68n9 (K : KTC) (e : Env) (k : KS) (c : KN) (p : KV) : Kr := gt e 6 fun a6 => gt e 8 fun a8 => gt e 2 fun a2 => gt e 3 fun a3 => gt e 26 fun a26 => gt e 27 fun a27 => b68n9 K k a6 a8 a2 a3 a26 a27 c p
theorem p68n9 (K : KTC) (K' : KT) (hK : CSound K K') : FitsC Tryz.prog K' (.reg (s68n9 K)) (.reg o68n9 [2, 3, 6, 8, 26, 27]) := fun e k c p y h => by
  obtain ⟨a6, h6, h⟩ := gt_some h
  obtain ⟨a8, h8, h⟩ := gt_some h
  obtain ⟨a2, h2, h⟩ := gt_some h
  obtain ⟨a3, h3, h⟩ := gt_some h
  obtain ⟨a26, h26, h⟩ := gt_some h
  obtain ⟨a27, h27, h⟩ := gt_some h
  exact wreg_fit hK (by decide +kernel) (keep_cons h6 (keep_cons h8 (keep_cons h2 (keep_cons h3 (keep_cons h26 (keep_cons h27 (keep_nil))))))) (e68n9 K k a6 a8 a2 a3 a26 a27 c p) h
def o68n10 : List RI := [⟨(some 33), none, (.q (.bin .add 3 (.t 27) (.k (.int .i64 1))))⟩, ⟨(some 27), none, (.q (.mov (.t 33)))⟩]
noncomputable def b68n10 (K : KTC) (k : KS) (a27 a2 a3 a6 a8 a26 : AV) (c : KN) (p : KV) : Kr :=
  xAdd 3 a27 (.sc (.int .i64 1)) fun v0 =>
  c [(2, a2), (3, a3), (6, a6), (8, a8), (26, a26), (27, v0)] k
theorem e68n10 (K : KTC) (k : KS) (a27 a2 a3 a6 a8 a26 : AV) (c : KN) (p : KV) : b68n10 K k a27 a2 a3 a6 a8 a26 c p = wReg Tryz.prog K [2, 3, 6, 8, 26, 27] o68n10 [(27, a27), (2, a2), (3, a3), (6, a6), (8, a8), (26, a26)] k c p := by unfold b68n10; simp only [xAdd_eq]; kernel_rfl
noncomputable def s68n10 (K : KTC) (e : Env) (k : KS) (c : KN) (p : KV) : Kr := gt e 27 fun a27 => gt e 2 fun a2 => gt e 3 fun a3 => gt e 6 fun a6 => gt e 8 fun a8 => gt e 26 fun a26 => b68n10 K k a27 a2 a3 a6 a8 a26 c p
theorem p68n10 (K : KTC) (K' : KT) (hK : CSound K K') : FitsC Tryz.prog K' (.reg (s68n10 K)) (.reg o68n10 [2, 3, 6, 8, 26, 27]) := fun e k c p y h => by
  obtain ⟨a27, h27, h⟩ := gt_some h
  obtain ⟨a2, h2, h⟩ := gt_some h
  obtain ⟨a3, h3, h⟩ := gt_some h
  obtain ⟨a6, h6, h⟩ := gt_some h
  obtain ⟨a8, h8, h⟩ := gt_some h
  obtain ⟨a26, h26, h⟩ := gt_some h
  exact wreg_fit hK (by decide +kernel) (keep_cons h27 (keep_cons h2 (keep_cons h3 (keep_cons h6 (keep_cons h8 (keep_cons h26 (keep_nil))))))) (e68n10 K k a27 a2 a3 a6 a8 a26 c p) h
def o68n11 : List RI := [⟨(some 34), none, (.q (.fld 3 194 (.t 3)))⟩, ⟨(some 35), none, (.q (.fld 0 0 (.t 2)))⟩, ⟨(some 36), none, (.rd (.ld false 1 (.t 35)))⟩, ⟨(some 37), none, (.q (.slca 8 1 (.t 34) none (some (.t 36))))⟩, ⟨(some 38), none, (.q (.len false (.t 37)))⟩, ⟨(some 39), none, (.q (.mov (.k (.int .i64 0))))⟩]
noncomputable def b68n11 (K : KTC) (k : KS) (a3 a2 a6 : AV) (x : Env) (c : KN) (p : KV) : Kr :=
  xFld 3 194 a3 fun v0 =>
  xFld 0 0 a2 fun v1 =>
  xLd k.t false 1 v1 fun v2 =>
  (kQ Tryz.prog [(34, v0), (36, v2)] (.slca 8 1 (.t 34) none (some (.t 36)))).bind fun v3 =>
  xLen v3 fun v4 =>
  c (Env.keep ([(2, a2), (3, a3), (6, a6), (37, v3), (38, v4), (39, (.sc (.int .i64 0)))] ++ x) [2, 3, 6, 8, 37, 38, 39]) k
theorem e68n11 (K : KTC) (k : KS) (a3 a2 a6 : AV) (x : Env) (c : KN) (p : KV) : b68n11 K k a3 a2 a6 x c p = wReg Tryz.prog K [2, 3, 6, 8, 37, 38, 39] o68n11 ([(3, a3), (2, a2), (6, a6)] ++ x) k c p := by unfold b68n11; simp only [xLen_eq, xLd_eq, xFld_eq]; kernel_rfl
noncomputable def s68n11 (K : KTC) (e : Env) (k : KS) (c : KN) (p : KV) : Kr := gt e 3 fun a3 => gt e 2 fun a2 => gt e 6 fun a6 => b68n11 K k a3 a2 a6 (e.keep [8]) c p
theorem p68n11 (K : KTC) (K' : KT) (hK : CSound K K') : FitsC Tryz.prog K' (.reg (s68n11 K)) (.reg o68n11 [2, 3, 6, 8, 37, 38, 39]) := fun e k c p y h => by
  obtain ⟨a3, h3, h⟩ := gt_some h
  obtain ⟨a2, h2, h⟩ := gt_some h
  obtain ⟨a6, h6, h⟩ := gt_some h
  exact wreg_fit hK (by decide +kernel) (keep_cons h3 (keep_cons h2 (keep_cons h6 (rfl)))) (e68n11 K k a3 a2 a6 (e.keep [8]) c p) h
def o68n12 : List RI := [⟨(some 40), none, (.q (.bin .lss 3 (.t 39) (.t 38)))⟩]
noncomputable def b68n12 (K : KTC) (k : KS) (a39 a38 a2 a3 a6 a37 : AV) (x : Env) (c : KN) (p : KV) : Kr :=
  xLss 3 a39 a38 fun v0 =>
  c (Env.keep ([(2, a2), (3, a3), (6, a6), (37, a37), (38, a38), (39, a39), (40, v0)] ++ x) [2, 3, 6, 8, 37, 38, 39, 40]) k
theorem e68n12 (K : KTC) (k : KS) (a39 a38 a2 a3 a6 a37 : AV) (x : Env) (c : KN) (p : KV) : b68n12 K k a39 a38 a2 a3 a6 a37 x c p = wReg Tryz.prog K [2, 3, 6, 8, 37, 38, 39, 40] o68n12 ([(39, a39), (38, a38), (2, a2), (3, a3), (6, a6), (37, a37)] ++ x) k c p := by unfold b68n12; simp only [xLss_eq]; kernel_rfl
noncomputable def s68n12 (K : KTC) (e : Env) (k : KS) (c : KN) (p : KV) : Kr := gt e 39 fun a39 => gt e 38 fun a38 => gt e 2 fun a2 => gt e 3 fun a3 => gt e 6 fun a6 => gt e 37 fun a37 => b68n12 K k a39 a38 a2 a3 a6 a37 (e.keep [8]) c p
theorem p68n12 (K : KTC) (K' : KT) (hK : CSound K K') : FitsC Tryz.prog K' (.reg (s68n12 K)) (.reg o68n12 [2, 3, 6, 8, 37, 38, 39, 40]) := fun e k c p y h => by
  obtain ⟨a39, h39, h⟩ := gt_some h
  obtain ⟨a38, h38, h⟩ := gt_some h
  obtain ⟨a2, h2, h⟩ := gt_some h
  obtain ⟨a3, h3, h⟩ := gt_some h
  obtain ⟨a6, h6, h⟩ := gt_some h
  obtain ⟨a37, h37, h⟩ := gt_some h
  exact wreg_fit hK (by decide +kernel) (keep_cons h39 (keep_cons h38 (keep_cons h2 (keep_cons h3 (keep_cons h6 (keep_cons h37 (rfl))))))) (e68n12 K k a39 a38 a2 a3 a6 a37 (e.keep [8]) c p) h
def o68n13 : List RI := [⟨(some 41), none, (.q (.ixs 1 (.t 37) (.t 39)))⟩, ⟨(some 42), none, (.rd (.ld false 1 (.t 41)))⟩, ⟨(some 10), none, (.q (.mov (.t 42)))⟩]
noncomputable def b68n13 (K : KTC) (k : KS) (a37 a39 a2 a3 a6 a38 : AV) (x : Env) (c : KN) (p : KV) : Kr :=
  xIxl k.t 1 false 1 a37 a39 fun v0 =>
  c (Env.keep ([(2, a2), (3, a3), (6, a6), (10, v0), (37, a37), (38, a38), (39, a39)] ++ x) [2, 3, 6, 8, 10, 37, 38, 39]) k
theorem e68n13 (K : KTC) (k : KS) (a37 a39 a2 a3 a6 a38 : AV) (x : Env) (c : KN) (p : KV) : b68n13 K k a37 a39 a2 a3 a6 a38 x c p = wReg Tryz.prog K [2, 3, 6, 8, 10, 37, 38, 39] o68n13 ([(37, a37), (39, a39), (2, a2), (3, a3), (6, a6), (38, a38)] ++ x) k c p := by unfold b68n13; simp only [xIxl_eq]; kernel_rfl
noncomputable def s68n13 (K : KTC) (e : Env) (k : KS) (c : KN) (p : KV) : Kr := gt e 37 fun a37 => gt e 39 fun a39 => gt e 2 fun a2 => gt e 3 fun a3 => gt e 6 fun a6 => gt e 38 fun a38 => b68n13 K k a37 a39 a2 a3 a6 a38 (e.keep [8]) c p
theorem p68n13 (K : KTC) (K' : KT) (hK : CSound K K') : FitsC Tryz.prog K' (.reg (s68n13 K)) (.reg o68n13 [2, 3, 6, 8, 10, 37, 38, 39]) := fun e k c p y h => by
  obtain ⟨a37, h37, h⟩ := gt_some h
  obtain ⟨a39, h39, h⟩ := gt_some h
  obtain ⟨a2, h2, h⟩ := gt_some h
  obtain ⟨a3, h3, h⟩ := gt_some h
  obtain ⟨a6, h6, h⟩ := gt_some h
  obtain ⟨a38, h38, h⟩ := gt_some h
  exact wreg_fit hK (by decide +kernel) (keep_cons h37 (keep_cons h39 (keep_cons h2 (keep_cons h3 (keep_cons h6 (keep_cons h38 (rfl))))))) (e68n13 K k a37 a39 a2 a3 a6 a38 (e.keep [8]) c p) h
def o68n14 : List RI := [⟨(some 43), none, (.q (.mov (.t 6)))⟩, ⟨(some 44), none, (.q (.mov (.t 10)))⟩, ⟨(some 45), none, (.q (.conv 3 39 (.t 44)))⟩, ⟨(some 46), none, (.ac (.callf 109 [(.t 43), (.t 45), (.k (.int .i64 31))]))⟩]
noncomputable def b68n14 (K : KTC) (k : KS) (a6 a10 a2 a3 a37 a38 a39 : AV) (x : Env) (c : KN) (p : KV) : Kr :=
  xConv 3 39 a10 fun v0 =>
  K 109 [a6, v0, (.sc (.int .i64 31))] k (fun v1 k1 =>
  c (Env.keep ([(2, a2), (3, a3), (6, a6), (37, a37), (38, a38), (39, a39)] ++ x) [2, 3, 6, 8, 37, 38, 39]) k1) (p)
theorem e68n14 (K : KTC) (k : KS) (a6 a10 a2 a3 a37 a38 a39 : AV) (x : Env) (c : KN) (p : KV) : b68n14 K k a6 a10 a2 a3 a37 a38 a39 x c p = wReg Tryz.prog K [2, 3, 6, 8, 37, 38, 39] o68n14 ([(6, a6), (10, a10), (2, a2), (3, a3), (37, a37), (38, a38), (39, a39)] ++ x) k c p := by unfold b68n14; simp only [xConv_eq]; kernel_rfl
noncomputable def s68n14 (K : KTC) (e : Env) (k : KS) (c : KN) (p : KV) : Kr := gt e 6 fun a6 => gt e 10 fun a10 => gt e 2 fun a2 => gt e 3 fun a3 => gt e 37 fun a37 => gt e 38 fun a38 => gt e 39 fun a39 => b68n14 K k a6 a10 a2 a3 a37 a38 a39 (e.keep [8]) c p
theorem p68n14 (K : KTC) (K' : KT) (hK : CSound K K') : FitsC Tryz.prog K' (.reg (s68n14 K)) (.reg o68n14 [2, 3, 6, 8, 37, 38, 39]) := fun e k c p y h => by
  obtain ⟨a6, h6, h⟩ := gt_some h
  obtain ⟨a10, h10, h⟩ := gt_some h
  obtain ⟨a2, h2, h⟩ := gt_some h
  obtain ⟨a3, h3, h⟩ := gt_some h
  obtain ⟨a37, h37, h⟩ := gt_some h
  obtain ⟨a38, h38, h⟩ := gt_some h
  obtain ⟨a39, h39, h⟩ := gt_some h
  exact wreg_fit hK (by decide +kernel) (keep_cons h6 (keep_cons h10 (keep_cons h2 (keep_cons h3 (keep_cons h37 (keep_cons h38 (keep_cons h39 (rfl)))))))) (e68n14 K k a6 a10 a2 a3 a37 a38 a39 (e.keep [8]) c p) h
def o68n15 : List RI := [⟨(some 47), none, (.q (.bin .add 3 (.t 39) (.k (.int .i64 1))))⟩, ⟨(some 39), none, (.q (.mov (.t 47)))⟩]
noncomputable def b68n15 (K : KTC) (k : KS) (a39 a2 a3 a6 a37 a38 : AV) (x : Env) (c : KN) (p : KV) : Kr :=
  xAdd 3 a39 (.sc (.int .i64 1)) fun v0 =>
  c (Env.keep ([(2, a2), (3, a3), (6, a6), (37, a37), (38, a38), (39, v0)] ++ x) [2, 3, 6, 8, 37, 38, 39]) k
theorem e68n15 (K : KTC) (k : KS) (a39 a2 a3 a6 a37 a38 : AV) (x : Env) (c : KN) (p : KV) : b68n15 K k a39 a2 a3 a6 a37 a38 x c p = wReg Tryz.prog K [2, 3, 6, 8, 37, 38, 39] o68n15 ([(39, a39), (2, a2), (3, a3), (6, a6), (37, a37), (38, a38)] ++ x) k c p := by unfold b68n15; simp only [xAdd_eq]; kernel_rfl
noncomputable def s68n15 (K : KTC) (e : Env) (k : KS) (c : KN) (p : KV) : Kr := gt e 39 fun a39 => gt e 2 fun a2 => gt e 3 fun a3 => gt e 6 fun a6 => gt e 37 fun a37 => gt e 38 fun a38 => b68n15 K k a39 a2 a3 a6 a37 a38 (e.keep [8]) c p
theorem p68n15 (K : KTC) (K' : KT) (hK : CSound K K') : FitsC Tryz.prog K' (.reg (s68n15 K)) (.reg o68n15 [2, 3, 6, 8, 37, 38, 39]) := fun e k c p y h => by
  obtain ⟨a39, h39, h⟩ := gt_some h
  obtain ⟨a2, h2, h⟩ := gt_some h
  obtain ⟨a3, h3, h⟩ := gt_some h
  obtain ⟨a6, h6, h⟩ := gt_some h
  obtain ⟨a37, h37, h⟩ := gt_some h
  obtain ⟨a38, h38, h⟩ := gt_some h
  exact wreg_fit hK (by decide +kernel) (keep_cons h39 (keep_cons h2 (keep_cons h3 (keep_cons h6 (keep_cons h37 (keep_cons h38 (rfl))))))) (e68n15 K k a39 a2 a3 a6 a37 a38 (e.keep [8]) c p) h
def o68n16 : List RI := [⟨(some 48), none, (.q (.mov (.t 6)))⟩, ⟨(some 49), none, (.ac (.callf 111 [(.t 48)]))⟩, ⟨(some 4), none, (.q (.mov (.t 49)))⟩, ⟨(some 5), none, (.q (.mov (.k (.int .i64 0))))⟩]
noncomputable def b68n16 (K : KTC) (k : KS) (a6 a2 a3 : AV) (x : Env) (c : KN) (p : KV) : Kr :=
  K 111 [a6] k (fun v0 k0 =>
  c (Env.keep ([(2, a2), (3, a3), (4, v0), (5, (.sc (.int .i64 0)))] ++ x) [2, 3, 4, 5, 8]) k0) (p)
theorem e68n16 (K : KTC) (k : KS) (a6 a2 a3 : AV) (x : Env) (c : KN) (p : KV) : b68n16 K k a6 a2 a3 x c p = wReg Tryz.prog K [2, 3, 4, 5, 8] o68n16 ([(6, a6), (2, a2), (3, a3)] ++ x) k c p := by unfold b68n16; kernel_rfl
noncomputable def s68n16 (K : KTC) (e : Env) (k : KS) (c : KN) (p : KV) : Kr := gt e 6 fun a6 => gt e 2 fun a2 => gt e 3 fun a3 => b68n16 K k a6 a2 a3 (e.keep [8]) c p
theorem p68n16 (K : KTC) (K' : KT) (hK : CSound K K') : FitsC Tryz.prog K' (.reg (s68n16 K)) (.reg o68n16 [2, 3, 4, 5, 8]) := fun e k c p y h => by
  obtain ⟨a6, h6, h⟩ := gt_some h
  obtain ⟨a2, h2, h⟩ := gt_some h
  obtain ⟨a3, h3, h⟩ := gt_some h
  exact wreg_fit hK (by decide +kernel) (keep_cons h6 (keep_cons h2 (keep_cons h3 (rfl)))) (e68n16 K k a6 a2 a3 (e.keep [8]) c p) h
def r68 : RFn := ⟨2, .seq (.reg o68n0 [2, 3, 8]) (.seq (.seq (.reg o68n1 [2, 3, 8, 14]) (.cond (.t 14) (.seq (.reg o68n2 [2, 3, 4, 5, 8]) (.ret)) (.skip))) (.seq (.reg o68n3 [2, 3, 6]) (.seq (.reg o68n4 [2, 3, 6]) (.seq (.reg o68n5 [2, 3, 6]) (.seq (.seq (.reg o68n6 [2, 3, 6, 26, 27]) (.block 0 (.loop [2, 3, 6, 26, 27] (.free [8] (.seq (.reg o68n7 [2, 3, 6, 8, 26, 27, 28]) (.seq (.cond (.t 28) (.skip) (.exit 0)) (.seq (.block 1 (.seq (.reg o68n8 [2, 3, 6, 8, 26, 27]) (.reg o68n9 [2, 3, 6, 8, 26, 27]))) (.reg o68n10 [2, 3, 6, 8, 26, 27])))))))) (.seq (.seq (.reg o68n11 [2, 3, 6, 8, 37, 38, 39]) (.block 2 (.loop [2, 3, 6, 8, 37, 38, 39] (.seq (.reg o68n12 [2, 3, 6, 8, 37, 38, 39, 40]) (.seq (.cond (.t 40) (.skip) (.exit 2)) (.seq (.block 3 (.seq (.reg o68n13 [2, 3, 6, 8, 10, 37, 38, 39]) (.reg o68n14 [2, 3, 6, 8, 37, 38, 39]))) (.reg o68n15 [2, 3, 6, 8, 37, 38, 39]))))))) (.seq (.reg o68n16 [2, 3, 4, 5, 8]) (.ret)))))))), [.tmp 4, .tmp 5], [2, 3, 8]⟩
noncomputable def q68 (K : KTC) : FK := .seq (.reg (s68n0 K)) (.seq (.seq (.reg (s68n1 K)) (.cond (.t 14) (.seq (.reg (s68n2 K)) (.ret)) (.skip))) (.seq (.reg (s68n3 K)) (.seq (.reg (s68n4 K)) (.seq (.reg (s68n5 K)) (.seq (.seq (.reg (s68n6 K)) (.block 0 (.loop [2, 3, 6, 26, 27] (.free [8] (.seq (.reg (s68n7 K)) (.seq (.cond (.t 28) (.skip) (.exit 0)) (.seq (.block 1 (.seq (.reg (s68n8 K)) (.reg (s68n9 K)))) (.reg (s68n10 K))))))))) (.seq (.seq (.reg (s68n11 K)) (.block 2 (.loop [2, 3, 6, 8, 37, 38, 39] (.seq (.reg (s68n12 K)) (.seq (.cond (.t 40) (.skip) (.exit 2)) (.seq (.block 3 (.seq (.reg (s68n13 K)) (.reg (s68n14 K)))) (.reg (s68n15 K)))))))) (.seq (.reg (s68n16 K)) (.ret))))))))
theorem ok68 (K : KTC) (K' : KT) (hK : CSound K K') : FitsC Tryz.prog K' (q68 K) r68.code := hs (p68n0 K _ hK) (hs (hs (p68n1 K _ hK) (hc (hs (p68n2 K _ hK) (hr)) (hk))) (hs (p68n3 K _ hK) (hs (p68n4 K _ hK) (hs (p68n5 K _ hK) (hs (hs (p68n6 K _ hK) (hb (hl (by decide +kernel) (hf (hs (p68n7 K _ hK) (hs (hc (hk) (hx)) (hs (hb (hs (p68n8 K _ hK) (p68n9 K _ hK))) (p68n10 K _ hK)))))))) (hs (hs (p68n11 K _ hK) (hb (hl (by decide +kernel) (hs (p68n12 K _ hK) (hs (hc (hk) (hx)) (hs (hb (hs (p68n13 K _ hK) (p68n14 K _ hK))) (p68n15 K _ hK))))))) (hs (p68n16 K _ hK) (hr))))))))
noncomputable def g68 : HFn Tryz.prog := ⟨r68, q68, ok68⟩
theorem c68 : chkF Tryz.prog Tryz.f68 r68 = true := by decide +kernel

/-- doubletake/tag.Mark -/
def r69 : RFn := ⟨1,
  .seq (
  .reg [⟨(some 2), none, (.q (.mov (.k (.int .i64 0))))⟩] [0]) (
  .seq (
  .reg [⟨(some 3), none, (.q (.mov (.t 0)))⟩,
    ⟨(some 4), none, (.ac (.callf 112 [(.k (.int .i64 7)), (.t 3)]))⟩,
    ⟨(some 5), none, (.q (.bin .shl 3 (.t 4) (.k (.int .u64 31))))⟩,
    ⟨(some 6), none, (.q (.mov (.t 0)))⟩,
    ⟨(some 7), none, (.ac (.callf 112 [(.k (.int .i64 11)), (.t 6)]))⟩,
    ⟨(some 8), none, (.q (.bin .add 3 (.t 5) (.t 7)))⟩,
    ⟨(some 2), none, (.q (.mov (.t 8)))⟩] [2]) (
  .ret)),
  [.tmp 2], []⟩
noncomputable def g69 : HFn Tryz.prog := ⟨r69, fun K => wslow Tryz.prog K r69.code, fun _ _ hK => wslow_fits hK _ (by decide +kernel)⟩
theorem c69 : chkF Tryz.prog Tryz.f69 r69 = true := by decide +kernel

/-- (*doubletake/gate.Gate).admit -/
def r70 : RFn := ⟨4,
  .seq (
  .reg [⟨(some 8), none, (.al (.alloc (.agg [1, 1, 1, 1, 1, 1, 1, 1, 1, 1, 1, 1, 1] [(.sc (.int .i64 0)), (.sc (.int .i64 0)), (.sc (.int .i64 0)), (.sc (.int .i64 0)), (.sc (.bool false)), (.sc (.int .u64 0)), (.sc (.int .i64 0)), (.sc (.int .i64 0)), (.slice none 0), (.sc (.int .i64 0)), (.slice none 0), (.sc (.int .i64 0)), (.sc (.int .i64 0))])))⟩,
    ⟨(some 9), none, (.q (.mov (.k (.int .i64 0))))⟩] [0, 1, 2, 3, 8]) (
  .seq (
  .reg [⟨(some 14), none, (.q (.mov (.t 0)))⟩,
    ⟨(some 15), none, (.q (.mov (.t 2)))⟩,
    ⟨(some 16), none, (.ac (.callf 113 [(.t 14), (.t 15)]))⟩,
    ⟨(some 13), none, (.q (.mov (.t 16)))⟩,
    ⟨(some 17), none, (.q (.ext 0 (.t 13)))⟩,
    ⟨(some 18), none, (.q (.ext 1 (.t 13)))⟩,
    ⟨(some 19), none, (.q (.ext 2 (.t 13)))⟩,
    ⟨(some 10), none, (.al (.alloc (.agg [1, 1, 1, 1, 1, 1, 1, 1, 1, 1, 1, 1, 1] [(.sc (.int .i64 0)), (.sc (.int .i64 0)), (.sc (.int .i64 0)), (.sc (.int .i64 0)), (.sc (.bool false)), (.sc (.int .u64 0)), (.sc (.int .i64 0)), (.sc (.int .i64 0)), (.slice none 0), (.sc (.int .i64 0)), (.slice none 0), (.sc (.int .i64 0)), (.sc (.int .i64 0))])))⟩,
    ⟨none, none, (.ac (.st 13 (.t 10) (.t 17)))⟩,
    ⟨(some 11), none, (.q (.mov (.t 18)))⟩,
    ⟨(some 12), none, (.q (.mov (.t 19)))⟩] [1, 3, 8, 10, 11, 12]) (
  .seq (
  .block 0 (
   .seq (
   .reg [⟨(some 21), none, (.q (.mov (.t 12)))⟩,
     ⟨(some 22), none, (.q (.bin .neq 3 (.t 21) (.k (.int .i64 0))))⟩,
     ⟨(some 20), none, (.q (.mov (.t 22)))⟩] [1, 3, 8, 10, 11, 12, 20]) (
   .cond (.t 20) (
    .seq (
    .reg [⟨(some 23), none, (.q (.bld (.agg [1, 1, 1, 1, 1, 1, 1, 1, 1, 1, 1, 1, 1] [(.sc (.int .i64 0)), (.sc (.int .i64 0)), (.sc (.int .i64 0)), (.sc (.int .i64 0)), (.sc (.bool false)), (.sc (.int .u64 0)), (.sc (.int .i64 0)), (.sc (.int .i64 0)), (.slice none 0), (.sc (.int .i64 0)), (.slice none 0), (.sc (.int .i64 0)), (.sc (.int .i64 0))]) []))⟩,
      ⟨(some 24), none, (.q (.mov (.t 12)))⟩,
      ⟨none, none, (.ac (.st 13 (.t 8) (.t 23)))⟩,
      ⟨(some 9), none, (.q (.mov (.t 24)))⟩] [8, 9, 10]) (
    .ret)) (
    .seq (
    .reg [⟨(some 26), none, (.q (.mov (.t 11)))⟩,
      ⟨(some 27), none, (.q (.nchk (.t 26)))⟩,
      ⟨(some 28), none, (.q (.fld 2 2 (.t 27)))⟩,
      ⟨(some 29), none, (.rd (.ld false 1 (.t 28)))⟩,
      ⟨(some 30), none, (.q (.mov (.t 3)))⟩,
      ⟨(some 31), none, (.ac (.callf 114 [(.t 29), (.t 30)]))⟩,
      ⟨(some 32), none, (.q (.un .not (.t 31)))⟩,
      ⟨(some 25), none, (.q (.mov (.t 32)))⟩] [1, 3, 8, 10, 11, 25]) (
    .cond (.t 25) (
     .seq (
     .reg [⟨(some 33), none, (.q (.bld (.agg [1, 1, 1, 1, 1, 1, 1, 1, 1, 1, 1, 1, 1] [(.sc (.int .i64 0)), (.sc (.int .i64 0)), (.sc (.int .i64 0)), (.sc (.int .i64 0)), (.sc (.bool false)), (.sc (.int .u64 0)), (.sc (.int .i64 0)), (.sc (.int .i64 0)), (.slice none 0), (.sc (.int .i64 0)), (.slice none 0), (.sc (.int .i64 0)), (.sc (.int .i64 0))]) []))⟩,
       ⟨none, none, (.ac (.st 13 (.t 8) (.t 33)))⟩,
       ⟨(some 9), none, (.q (.mov (.k (.int .i64 4))))⟩] [8, 9, 10]) (
     .ret)) (
     .seq (
     .draw [(0, ⟨(some 35), none, (.q (.mov (.t 11)))⟩, 0),
       (1, ⟨(some 36), none, (.q (.nchk (.t 35)))⟩, 0),
       (2, ⟨(some 37), none, (.q (.fld 1 1 (.t 36)))⟩, 0),
       (3, ⟨(some 38), none, (.rd (.ld false 1 (.t 37)))⟩, 0),
       (4, ⟨(some 39), none, (.rd (.ld true 13 (.t 10)))⟩, 0),
       (5, ⟨(some 40), none, (.q (.mov (.t 3)))⟩, 0),
       (6, ⟨(some 41), none, (.ac (.callf 115 [(.t 38), (.t 39), (.t 40)]))⟩, 0),
       (7, ⟨(some 42), none, (.q (.un .not (.t 41)))⟩, 0),
       (8, ⟨(some 34), none, (.q (.mov (.t 42)))⟩, 0)] [1, 8, 10, 11, 34]) (
     .cond (.t 34) (
      .seq (
      .reg [⟨(some 43), none, (.q (.bld (.agg [1, 1, 1, 1, 1, 1, 1, 1, 1, 1, 1, 1, 1] [(.sc (.int .i64 0)), (.sc (.int .i64 0)), (.sc (.int .i64 0)), (.sc (.int .i64 0)), (.sc (.bool false)), (.sc (.int .u64 0)), (.sc (.int .i64 0)), (.sc (.int .i64 0)), (.slice none 0), (.sc (.int .i64 0)), (.slice none 0), (.sc (.int .i64 0)), (.sc (.int .i64 0))]) []))⟩,
        ⟨none, none, (.ac (.st 13 (.t 8) (.t 43)))⟩,
        ⟨(some 9), none, (.q (.mov (.k (.int .i64 5))))⟩] [8, 9, 10]) (
      .ret)) (
      .skip)))))))) (
  .seq (
  .reg [⟨(some 44), none, (.q (.mov (.t 11)))⟩,
    ⟨(some 45), none, (.q (.mov (.t 11)))⟩,
    ⟨(some 46), none, (.q (.fld 0 0 (.t 10)))⟩,
    ⟨(some 47), none, (.rd (.ld false 1 (.t 46)))⟩,
    ⟨(some 48), none, (.q (.bin .neq 3 (.t 47) (.k (.int .i64 5))))⟩,
    ⟨(some 49), none, (.q (.mov (.t 1)))⟩,
    ⟨(some 50), none, (.q (.nchk (.t 44)))⟩,
    ⟨(some 51), none, (.q (.fld 3 3 (.t 50)))⟩,
    ⟨none, none, (.ac (.st 1 (.t 51) (.t 48)))⟩,
    ⟨(some 52), none, (.q (.nchk (.t 45)))⟩,
    ⟨(some 53), none, (.q (.fld 4 4 (.t 52)))⟩,
    ⟨none, none, (.ac (.st 1 (.t 53) (.t 49)))⟩] [8, 10]) (
  .seq (
  .reg [⟨(some 54), none, (.rd (.ld true 13 (.t 10)))⟩,
    ⟨none, none, (.ac (.st 13 (.t 8) (.t 54)))⟩,
    ⟨(some 9), none, (.q (.mov (.k (.int .i64 0))))⟩] [8, 9, 10]) (
  .ret))))),
  [.cell 8 true 13, .tmp 9], [8, 10]⟩
noncomputable def g70 : HFn Tryz.prog := ⟨r70, fun K => wslow Tryz.prog K r70.code, fun _ _ hK => wslow_fits hK _ (by decide +kernel)⟩
theorem c70 : chkF Tryz.prog Tryz.f70 r70 = true := by decide +kernel

/-- (*doubletake/seal.Log).Len -/
def r71 : RFn := ⟨1,
  .seq (
  .reg [⟨(some 2), none, (.q (.mov (.k (.int .i64 0))))⟩] [0]) (
  .seq (
  .reg [⟨(some 3), none, (.q (.mov (.t 0)))⟩,
    ⟨(some 4), none, (.q (.nchk (.t 3)))⟩,
    ⟨(some 5), none, (.q (.fld 1 10 (.t 4)))⟩,
    ⟨(some 6), none, (.rd (.ld false 1 (.t 5)))⟩,
    ⟨(some 7), none, (.q (.len false (.t 6)))⟩,
    ⟨(some 2), none, (.q (.mov (.t 7)))⟩] [2]) (
  .ret)),
  [.tmp 2], []⟩
noncomputable def g71 : HFn Tryz.prog := ⟨r71, fun K => wslow Tryz.prog K r71.code, fun _ _ hK => wslow_fits hK _ (by decide +kernel)⟩
theorem c71 : chkF Tryz.prog Tryz.f71 r71 = true := by decide +kernel

/-- (*doubletake/seal.Log).Offer -/
def r72 : RFn := ⟨4,
  .seq (
  .reg [⟨(some 7), none, (.al (.box (.t 3)))⟩,
    ⟨(some 8), none, (.q (.mov (.k (.int .i64 0))))⟩] [0, 1, 2, 7]) (
  .seq (
  .block 0 (
   .seq (
   .reg [⟨(some 12), none, (.q (.mov (.t 1)))⟩,
     ⟨(some 13), none, (.q (.bin .lss 3 (.t 12) (.k (.int .i64 0))))⟩,
     ⟨(some 14), none, (.q (.mov (.t 13)))⟩,
     ⟨(some 15), (some (14, false)), (.q (.mov (.t 1)))⟩,
     ⟨(some 16), (some (14, false)), (.q (.mov (.t 0)))⟩,
     ⟨(some 17), (some (14, false)), (.q (.nchk (.t 16)))⟩,
     ⟨(some 18), (some (14, false)), (.q (.fld 0 0 (.t 17)))⟩,
     ⟨(some 19), (some (14, false)), (.q (.fld 0 0 (.t 18)))⟩,
     ⟨(some 20), (some (14, false)), (.rd (.ld false 1 (.t 19)))⟩,
     ⟨(some 21), (some (14, false)), (.q (.bin .geq 3 (.t 15) (.t 20)))⟩,
     ⟨(some 22), none, (.q (.pick (.t 14) (.k (.bool true)) (.t 21)))⟩,
     ⟨(some 23), none, (.q (.mov (.t 22)))⟩,
     ⟨(some 24), (some (23, false)), (.q (.mov (.t 0)))⟩,
     ⟨(some 25), (some (23, false)), (.q (.mov (.t 2)))⟩,
     ⟨(some 26), (some (23, false)), (.ac (.callf 116 [(.t 24), (.t 25)]))⟩,
     ⟨(some 27), (some (23, false)), (.q (.un .not (.t 26)))⟩,
     ⟨(some 28), none, (.q (.pick (.t 23) (.k (.bool true)) (.t 27)))⟩,
     ⟨(some 29), none, (.q (.mov (.t 28)))⟩,
     ⟨(some 30), (some (29, false)), (.rd (.ld true 3 (.t 7)))⟩,
     ⟨(some 31), (some (29, false)), (.ac (.callf 117 [(.t 30)]))⟩,
     ⟨(some 32), (some (29, false)), (.q (.un .not (.t 31)))⟩,
     ⟨(some 33), none, (.q (.pick (.t 29) (.k (.bool true)) (.t 32)))⟩,
     ⟨(some 11), none, (.q (.mov (.t 33)))⟩] [0, 1, 2, 7, 11]) (
   .cond (.t 11) (
    .seq (
    .reg [⟨(some 8), none, (.q (.mov (.k (.int .i64 5))))⟩] [7, 8]) (
    .ret)) (
    .seq (
    .reg [⟨(some 35), none, (.q (.mov (.t 2)))⟩,
      ⟨(some 36), none, (.q (.mov (.t 0)))⟩,
      ⟨(some 37), none, (.q (.nchk (.t 36)))⟩,
      ⟨(some 38), none, (.q (.fld 1 10 (.t 37)))⟩,
      ⟨(some 39), none, (.rd (.ld false 1 (.t 38)))⟩,
      ⟨(some 40), none, (.q (.len false (.t 39)))⟩,
      ⟨(some 41), none, (.q (.bin .lss 3 (.t 35) (.t 40)))⟩,
      ⟨(some 34), none, (.q (.mov (.t 41)))⟩] [0, 1, 2, 7, 34]) (
    .cond (.t 34) (
     .seq (
     .reg [⟨(some 8), none, (.q (.mov (.k (.int .i64 2))))⟩] [7, 8]) (
     .ret)) (
     .seq (
     .reg [⟨(some 43), none, (.q (.mov (.t 2)))⟩,
       ⟨(some 44), none, (.q (.mov (.t 0)))⟩,
       ⟨(some 45), none, (.q (.nchk (.t 44)))⟩,
       ⟨(some 46), none, (.q (.fld 1 10 (.t 45)))⟩,
       ⟨(some 47), none, (.rd (.ld false 1 (.t 46)))⟩,
       ⟨(some 48), none, (.q (.len false (.t 47)))⟩,
       ⟨(some 49), none, (.q (.bin .sub 3 (.t 43) (.t 48)))⟩,
       ⟨(some 50), none, (.q (.bin .geq 3 (.t 49) (.k (.int .i64 64))))⟩,
       ⟨(some 42), none, (.q (.mov (.t 50)))⟩] [0, 1, 2, 7, 42]) (
     .cond (.t 42) (
      .seq (
      .reg [⟨(some 8), none, (.q (.mov (.k (.int .i64 3))))⟩] [7, 8]) (
      .ret)) (
      .skip)))))))) (
  .seq (
  .reg [⟨(some 52), none, (.q (.mov (.t 0)))⟩,
    ⟨(some 53), none, (.q (.nchk (.t 52)))⟩,
    ⟨(some 54), none, (.q (.fld 2 11 (.t 53)))⟩,
    ⟨(some 55), none, (.rd (.ld false 1 (.t 54)))⟩,
    ⟨(some 56), none, (.q (.mov (.t 2)))⟩,
    ⟨(some 57), none, (.rd (.look (.slice none 0) true (.t 55) (.t 56)))⟩,
    ⟨(some 51), none, (.q (.mov (.t 57)))⟩,
    ⟨(some 58), none, (.q (.ext 0 (.t 51)))⟩,
    ⟨(some 59), none, (.q (.ext 1 (.t 51)))⟩,
    ⟨(some 9), none, (.q (.mov (.t 58)))⟩,
    ⟨(some 10), none, (.q (.mov (.t 59)))⟩] [0, 1, 2, 7, 9, 10]) (
  .seq (
  .block 1 (
   .seq (
   .reg [⟨(some 61), none, (.q (.mov (.t 10)))⟩,
     ⟨(some 62), none, (.q (.un .not (.t 61)))⟩,
     ⟨(some 60), none, (.q (.mov (.t 62)))⟩] [0, 1, 2, 7, 9, 60]) (
   .cond (.t 60) (
    .seq (
    .reg [⟨(some 63), none, (.q (.mov (.t 0)))⟩,
      ⟨(some 64), none, (.q (.nchk (.t 63)))⟩,
      ⟨(some 65), none, (.q (.fld 0 0 (.t 64)))⟩,
      ⟨(some 66), none, (.q (.fld 0 0 (.t 65)))⟩,
      ⟨(some 67), none, (.rd (.ld false 1 (.t 66)))⟩,
      ⟨(some 68), none, (.al (.mkS 4 32 (.agg [1, 3] [(.sc (.bool false)), (.agg [1, 1, 1] [(.sc (.int .i64 0)), (.sc (.int .i64 0)), (.sc (.int .i64 0))])]) (.t 67) (.t 67)))⟩,
      ⟨(some 9), none, (.q (.mov (.t 68)))⟩] [0, 1, 2, 7, 9]) (
    .reg [⟨(some 69), none, (.q (.mov (.t 0)))⟩,
      ⟨(some 70), none, (.q (.nchk (.t 69)))⟩,
      ⟨(some 71), none, (.q (.fld 2 11 (.t 70)))⟩,
      ⟨(some 72), none, (.rd (.ld false 1 (.t 71)))⟩,
      ⟨(some 73), none, (.q (.mov (.t 2)))⟩,
      ⟨(some 74), none, (.q (.mov (.t 9)))⟩,
      ⟨none, none, (.ac (.mset (.t 72) (.t 73) (.t 74)))⟩] [1, 7, 9])) (
    .seq (
    .reg [⟨(some 76), none, (.q (.mov (.t 9)))⟩,
      ⟨(some 77), none, (.q (.mov (.t 1)))⟩,
      ⟨(some 78), none, (.q (.ixs 4 (.t 76) (.t 77)))⟩,
      ⟨(some 79), none, (.q (.fld 0 0 (.t 78)))⟩,
      ⟨(some 80), none, (.rd (.ld false 1 (.t 79)))⟩,
      ⟨(some 75), none, (.q (.mov (.t 80)))⟩] [1, 7, 9, 75]) (
    .cond (.t 75) (
     .seq (
     .reg [⟨(some 8), none, (.q (.mov (.k (.int .i64 4))))⟩] [7, 8]) (
     .ret)) (
     .skip)))))) (
  .seq (
  .reg [⟨(some 81), none, (.q (.mov (.t 9)))⟩,
    ⟨(some 82), none, (.q (.mov (.t 1)))⟩,
    ⟨(some 83), none, (.rd (.ld true 3 (.t 7)))⟩,
    ⟨(some 84), none, (.q (.bld (.agg [1, 3] [(.sc (.bool false)), (.agg [1, 1, 1] [(.sc (.int .i64 0)), (.sc (.int .i64 0)), (.sc (.int .i64 0))])]) [(0, (.k (.bool true))), (1, (.t 83))]))⟩,
    ⟨(some 85), none, (.q (.ixs 4 (.t 81) (.t 82)))⟩,
    ⟨none, none, (.ac (.st 4 (.t 85) (.t 84)))⟩] [7]) (
  .seq (
  .reg [⟨(some 8), none, (.q (.mov (.k (.int .i64 1))))⟩] [7, 8]) (
  .ret)))))),
  [.tmp 8], [7]⟩
noncomputable def g72 : HFn Tryz.prog := ⟨r72, fun K => wslow Tryz.prog K r72.code, fun _ _ hK => wslow_fits hK _ (by decide +kernel)⟩
theorem c72 : chkF Tryz.prog Tryz.f72 r72 = true := by decide +kernel

/-- (*doubletake/seal.Log).Tick -/
def r73 : RFn := ⟨2,
  .seq (
  .reg [⟨(some 4), none, (.q (.mov (.k (.int .i64 0))))⟩] [0, 1]) (
  .seq (
  .reg [⟨(some 5), none, (.q (.mov (.k (.int .i64 0))))⟩] [0, 1, 5]) (
  .seq (
  .block 0 (
   .loop [0, 1, 5] (
    .seq (
    .seq (
    .reg [⟨(some 8), none, (.q (.mov (.t 0)))⟩,
      ⟨(some 9), none, (.ac (.callf 53 [(.t 8)]))⟩,
      ⟨(some 10), none, (.q (.un .not (.t 9)))⟩,
      ⟨(some 11), none, (.q (.mov (.t 10)))⟩,
      ⟨(some 12), (some (11, true)), (.q (.mov (.t 0)))⟩,
      ⟨(some 13), (some (11, true)), (.q (.mov (.t 0)))⟩,
      ⟨(some 14), (some (11, true)), (.q (.nchk (.t 13)))⟩,
      ⟨(some 15), (some (11, true)), (.q (.fld 1 10 (.t 14)))⟩,
      ⟨(some 16), (some (11, true)), (.rd (.ld false 1 (.t 15)))⟩,
      ⟨(some 17), (some (11, true)), (.q (.len false (.t 16)))⟩,
      ⟨(some 18), (some (11, true)), (.ac (.callf 118 [(.t 12), (.t 17)]))⟩,
      ⟨(some 19), (some (11, true)), (.q (.mov (.t 1)))⟩,
      ⟨(some 20), (some (11, true)), (.q (.bin .leq 3 (.t 18) (.t 19)))⟩,
      ⟨(some 21), none, (.q (.pick (.t 11) (.t 20) (.k (.bool false))))⟩] [0, 1, 5, 21]) (
    .cond (.t 21) (
     .skip) (
     .exit 0))) (
    .block 1 (
     .seq (
     .draw [(0, ⟨(some 23), none, (.q (.mov (.t 0)))⟩, 0),
       (1, ⟨(some 24), none, (.q (.nchk (.t 23)))⟩, 0),
       (2, ⟨(some 25), none, (.q (.fld 2 11 (.t 24)))⟩, 0),
       (3, ⟨(some 26), none, (.rd (.ld false 1 (.t 25)))⟩, 0),
       (4, ⟨(some 27), none, (.q (.mov (.t 0)))⟩, 0),
       (5, ⟨(some 28), none, (.q (.nchk (.t 27)))⟩, 0),
       (6, ⟨(some 29), none, (.q (.fld 1 10 (.t 28)))⟩, 0),
       (7, ⟨(some 30), none, (.rd (.ld false 1 (.t 29)))⟩, 0),
       (8, ⟨(some 31), none, (.q (.len false (.t 30)))⟩, 0),
       (9, ⟨(some 32), none, (.rd (.look (.slice none 0) true (.t 26) (.t 31)))⟩, 0),
       (10, ⟨(some 22), none, (.q (.mov (.t 32)))⟩, 0),
       (11, ⟨(some 33), none, (.q (.ext 0 (.t 22)))⟩, 0),
       (12, ⟨(some 34), none, (.q (.ext 1 (.t 22)))⟩, 0),
       (13, ⟨(some 6), none, (.q (.mov (.t 33)))⟩, 0),
       (14, ⟨(some 7), none, (.q (.mov (.t 34)))⟩, 0)] [0, 1, 5, 6, 7]) (
     .seq (
     .seq (
     .reg [⟨(some 35), none, (.q (.mov (.t 7)))⟩,
       ⟨(some 36), none, (.q (.un .not (.t 35)))⟩] [0, 1, 5, 6, 36]) (
     .cond (.t 36) (
      .reg [⟨(some 37), none, (.q (.mov (.t 0)))⟩,
        ⟨(some 38), none, (.q (.nchk (.t 37)))⟩,
        ⟨(some 39), none, (.q (.fld 0 0 (.t 38)))⟩,
        ⟨(some 40), none, (.q (.fld 0 0 (.t 39)))⟩,
        ⟨(some 41), none, (.rd (.ld false 1 (.t 40)))⟩,
        ⟨(some 42), none, (.al (.mkS 4 32 (.agg [1, 3] [(.sc (.bool false)), (.agg [1, 1, 1] [(.sc (.int .i64 0)), (.sc (.int .i64 0)), (.sc (.int .i64 0))])]) (.t 41) (.t 41)))⟩,
        ⟨(some 6), none, (.q (.mov (.t 42)))⟩] [0, 1, 5, 6]) (
      .skip))) (
     .seq (
     .draw [(0, ⟨(some 43), none, (.q (.mov (.t 0)))⟩, 0),
       (1, ⟨(some 44), none, (.q (.nchk (.t 43)))⟩, 0),
       (2, ⟨(some 45), none, (.q (.fld 2 11 (.t 44)))⟩, 0),
       (3, ⟨(some 46), none, (.rd (.ld false 1 (.t 45)))⟩, 0),
       (4, ⟨(some 47), none, (.q (.mov (.t 0)))⟩, 0),
       (5, ⟨(some 48), none, (.q (.nchk (.t 47)))⟩, 0),
       (6, ⟨(some 49), none, (.q (.fld 1 10 (.t 48)))⟩, 0),
       (7, ⟨(some 50), none, (.rd (.ld false 1 (.t 49)))⟩, 0),
       (8, ⟨(some 51), none, (.q (.len false (.t 50)))⟩, 0),
       (9, ⟨none, none, (.ac (.mdel (.t 46) (.t 51)))⟩, 0)] [0, 1, 5, 6]) (
     .seq (
     .reg [⟨(some 52), none, (.q (.mov (.t 0)))⟩,
       ⟨(some 53), none, (.q (.mov (.t 0)))⟩,
       ⟨(some 54), none, (.q (.nchk (.t 53)))⟩,
       ⟨(some 55), none, (.q (.fld 1 10 (.t 54)))⟩,
       ⟨(some 56), none, (.rd (.ld false 1 (.t 55)))⟩,
       ⟨(some 57), none, (.q (.mov (.t 6)))⟩,
       ⟨(some 58), none, (.al (.bldS 1 1 (.slice none 0) [(0, (.t 57))]))⟩,
       ⟨(some 59), none, (.ac (.app true 1 24 (.t 56) (.t 58)))⟩,
       ⟨(some 60), none, (.q (.nchk (.t 52)))⟩,
       ⟨(some 61), none, (.q (.fld 1 10 (.t 60)))⟩,
       ⟨none, none, (.ac (.st 1 (.t 61) (.t 59)))⟩] [0, 1, 5]) (
     .reg [⟨(some 62), none, (.q (.mov (.t 5)))⟩,
       ⟨(some 63), none, (.q (.bin .add 3 (.t 62) (.k (.int .i64 1))))⟩,
       ⟨(some 5), none, (.q (.mov (.t 63)))⟩] [0, 1, 5]))))))))) (
  .seq (
  .reg [⟨(some 64), none, (.q (.mov (.t 5)))⟩,
    ⟨(some 4), none, (.q (.mov (.t 64)))⟩] [4]) (
  .ret)))),
  [.tmp 4], []⟩
noncomputable def g73 : HFn Tryz.prog := ⟨r73, fun K => wslow Tryz.prog K r73.code, fun _ _ hK => wslow_fits hK _ (by decide +kernel)⟩
theorem c73 : chkF Tryz.prog Tryz.f73 r73 = true := by decide +kernel

/-- doubletake/step.Step -/
def r74 : RFn := ⟨3,
  .seq (
  .reg [⟨(some 3), none, (.al (.box (.t 0)))⟩,
    ⟨(some 4), none, (.al (.box (.t 1)))⟩,
    ⟨(some 6), none, (.al (.alloc (.agg [1, 1, 192, 8] [(.sc (.int .i64 0)), (.sc (.int .u64 0)), (.arr 12 (List.replicate 16 (.agg [1, 1, 1, 1, 1, 1, 1, 4, 1] [(.sc (.int .i64 0)), (.sc (.int .i64 0)), (.sc (.int .i64 0)), (.sc (.int .i64 0)), (.sc (.int .i64 0)), (.sc (.int .i64 0)), (.sc (.int .i64 0)), (.arr 1 (List.replicate 4 (.sc (.int .i64 0)))), (.sc (.int .i64 0))]))), (.arr 1 (List.replicate 8 (.sc (.int .i64 0))))])))⟩] [2, 3, 4, 6, 17]) (
  .seq (
  .seq (
  .reg [⟨(some 8), none, (.rd (.ld true 10 (.t 3)))⟩,
    ⟨(some 9), none, (.rd (.ld true 202 (.t 4)))⟩,
    ⟨(some 10), none, (.ac (.callf 107 [(.t 8), (.t 9)]))⟩,
    ⟨(some 11), none, (.q (.un .not (.t 10)))⟩] [2, 3, 4, 6, 11, 17]) (
  .cond (.t 11) (
   .seq (
   .reg [⟨(some 12), none, (.q (.bld (.agg [1, 1, 192, 8] [(.sc (.int .i64 0)), (.sc (.int .u64 0)), (.arr 12 (List.replicate 16 (.agg [1, 1, 1, 1, 1, 1, 1, 4, 1] [(.sc (.int .i64 0)), (.sc (.int .i64 0)), (.sc (.int .i64 0)), (.sc (.int .i64 0)), (.sc (.int .i64 0)), (.sc (.int .i64 0)), (.sc (.int .i64 0)), (.arr 1 (List.replicate 4 (.sc (.int .i64 0)))), (.sc (.int .i64 0))]))), (.arr 1 (List.replicate 8 (.sc (.int .i64 0))))]) []))⟩,
     ⟨none, none, (.ac (.st 202 (.t 6) (.t 12)))⟩] [3, 4, 6, 17]) (
   .ret)) (
   .skip))) (
  .seq (
  .reg [⟨(some 13), none, (.rd (.ld true 10 (.t 3)))⟩,
    ⟨(some 14), none, (.rd (.ld true 202 (.t 4)))⟩,
    ⟨(some 15), none, (.q (.mov (.t 2)))⟩,
    ⟨(some 16), none, (.q (.bld (.agg [10, 202, 1, 1] [(.agg [1, 1, 1, 1, 1, 1, 1, 1, 1, 1] [(.sc (.int .i64 0)), (.sc (.int .i64 0)), (.sc (.int .i64 0)), (.sc (.int .i64 0)), (.sc (.int .i64 0)), (.sc (.int .i64 0)), (.sc (.float .f64 0)), (.sc (.float .f64 0)), (.slice none 0), (.slice none 0)]), (.agg [1, 1, 192, 8] [(.sc (.int .i64 0)), (.sc (.int .u64 0)), (.arr 12 (List.replicate 16 (.agg [1, 1, 1, 1, 1, 1, 1, 4, 1] [(.sc (.int .i64 0)), (.sc (.int .i64 0)), (.sc (.int .i64 0)), (.sc (.int .i64 0)), (.sc (.int .i64 0)), (.sc (.int .i64 0)), (.sc (.int .i64 0)), (.arr 1 (List.replicate 4 (.sc (.int .i64 0)))), (.sc (.int .i64 0))]))), (.arr 1 (List.replicate 8 (.sc (.int .i64 0))))]), (.slice none 0), (.slice none 0)]) [(0, (.t 13)), (1, (.t 14)), (2, (.t 15))]))⟩,
    ⟨(some 17), none, (.al (.box (.t 16)))⟩,
    ⟨(some 7), none, (.q (.mov (.t 17)))⟩] [3, 4, 6, 7, 17]) (
  .seq (
  .reg [⟨(some 18), none, (.q (.mov (.t 7)))⟩,
    ⟨(some 19), none, (.ac (.callf 119 [(.t 18)]))⟩] [3, 4, 6, 7, 17]) (
  .seq (
  .reg [⟨(some 20), none, (.q (.mov (.t 7)))⟩,
    ⟨(some 21), none, (.ac (.callf 120 [(.t 20)]))⟩] [3, 4, 6, 7, 17]) (
  .seq (
  .reg [⟨(some 22), none, (.q (.mov (.t 7)))⟩,
    ⟨(some 23), none, (.ac (.callf 121 [(.t 22)]))⟩] [3, 4, 6, 7, 17]) (
  .seq (
  .reg [⟨(some 24), none, (.q (.mov (.t 7)))⟩,
    ⟨(some 25), none, (.q (.mov (.t 7)))⟩,
    ⟨(some 26), none, (.q (.nchk (.t 25)))⟩,
    ⟨(some 27), none, (.q (.fld 1 10 (.t 26)))⟩,
    ⟨(some 28), none, (.q (.fld 0 0 (.t 27)))⟩,
    ⟨(some 29), none, (.rd (.ld false 1 (.t 28)))⟩,
    ⟨(some 30), none, (.q (.bin .add 3 (.t 29) (.k (.int .i64 1))))⟩,
    ⟨(some 31), none, (.q (.mm false [(.t 30), (.k (.int .i64 600))]))⟩,
    ⟨(some 32), none, (.q (.nchk (.t 24)))⟩,
    ⟨(some 33), none, (.q (.fld 1 10 (.t 32)))⟩,
    ⟨(some 34), none, (.q (.fld 0 0 (.t 33)))⟩,
    ⟨none, none, (.ac (.st 1 (.t 34) (.t 31)))⟩] [3, 4, 6, 7, 17]) (
  .seq (
  .reg [⟨(some 35), none, (.q (.mov (.t 7)))⟩,
    ⟨(some 36), none, (.q (.nchk (.t 35)))⟩,
    ⟨(some 37), none, (.q (.fld 1 10 (.t 36)))⟩,
    ⟨(some 38), none, (.rd (.ld true 202 (.t 37)))⟩,
    ⟨none, none, (.ac (.st 202 (.t 6) (.t 38)))⟩] [3, 4, 6, 17]) (
  .ret)))))))),
  [.cell 6 true 202], [3, 4, 6, 17]⟩
noncomputable def g74 : HFn Tryz.prog := ⟨r74, fun K => wslow Tryz.prog K r74.code, fun _ _ hK => wslow_fits hK _ (by decide +kernel)⟩
theorem c74 : chkF Tryz.prog Tryz.f74 r74 = true := by decide +kernel

/-! (*doubletake/gate.Gate).of -/
def o75n0 : List RI := [⟨(some 4), none, (.q (.mov .nilp))⟩]
noncomputable def b75n0 (K : KTC) (k : KS) (a0 a1 : AV) (c : KN) (p : KV) : Kr :=
  c [(0, a0), (1, a1)] k
theorem e75n0 (K : KTC) (k : KS) (a0 a1 : AV) (c : KN) (p : KV) : b75n0 K k a0 a1 c p = wReg Tryz.prog K [0, 1] o75n0 [(0, a0), (1, a1)] k c p := by unfold b75n0; kernel_rfl
noncomputable def s75n0 (K : KTC) (e : Env) (k : KS) (c : KN) (p : KV) : Kr := gt e 0 fun a0 => gt e 1 fun a1 => b75n0 K k a0 a1 c p
theorem p75n0 (K : KTC) (K' : KT) (hK : CSound K K') : FitsC Tryz.prog K' (.reg (s75n0 K)) (.reg o75n0 [0, 1]) := fun e k c p y h => by
  obtain ⟨a0, h0, h⟩ := gt_some h
  obtain ⟨a1, h1, h⟩ := gt_some h
  exact wreg_fit hK (by decide +kernel) (keep_cons h0 (keep_cons h1 (keep_nil))) (e75n0 K k a0 a1 c p) h
def o75n1 : List RI := [⟨(some 5), none, (.q (.mov (.t 1)))⟩, ⟨(some 6), none, (.q (.bin .lss 3 (.t 5) (.k (.int .i64 0))))⟩, ⟨(some 7), none, (.q (.mov (.t 6)))⟩, ⟨(some 8), (some (7, false)), (.q (.mov (.t 1)))⟩, ⟨(some 9), (some (7, false)), (.q (.mov (.t 0)))⟩, ⟨(some 10), (some (7, false)), (.q (.nchk (.t 9)))⟩, ⟨(some 11), (some (7, false)), (.q (.fld 0 0 (.t 10)))⟩, ⟨(some 12), (some (7, false)), (.rd (.ld false 1 (.t 11)))⟩, ⟨(some 13), (some (7, false)), (.q (.len false (.t 12)))⟩, ⟨(some 14), (some (7, false)), (.q (.bin .geq 3 (.t 8) (.t 13)))⟩, ⟨(some 15), none, (.q (.pick (.t 7) (.k (.bool true)) (.t 14)))⟩]
def o75n2 : List RI := [⟨(some 4), none, (.q (.mov .nilp))⟩]
noncomputable def b75n2 (K : KTC) (k : KS) (c : KN) (p : KV) : Kr :=
  c [(4, (.ptr none))] k
theorem e75n2 (K : KTC) (k : KS) (c : KN) (p : KV) : b75n2 K k  c p = wReg Tryz.prog K [4] o75n2 [] k c p := by unfold b75n2; kernel_rfl
noncomputable def s75n2 (K : KTC) (e : Env) (k : KS) (c : KN) (p : KV) : Kr := b75n2 K k  c p
theorem p75n2 (K : KTC) (K' : KT) (hK : CSound K K') : FitsC Tryz.prog K' (.reg (s75n2 K)) (.reg o75n2 [4]) := fun e k c p y h => by
  exact wreg_fit hK (by decide +kernel) (keep_nil) (e75n2 K k  c p) h
def o75n3 : List RI := [⟨(some 16), none, (.q (.mov (.t 0)))⟩, ⟨(some 17), none, (.q (.nchk (.t 16)))⟩, ⟨(some 18), none, (.q (.fld 0 0 (.t 17)))⟩, ⟨(some 19), none, (.rd (.ld false 1 (.t 18)))⟩, ⟨(some 20), none, (.q (.mov (.t 1)))⟩, ⟨(some 21), none, (.q (.ixs 1 (.t 19) (.t 20)))⟩, ⟨(some 22), none, (.rd (.ld false 1 (.t 21)))⟩, ⟨(some 4), none, (.q (.mov (.t 22)))⟩]
noncomputable def b75n3 (K : KTC) (k : KS) (a0 a1 : AV) (c : KN) (p : KV) : Kr :=
  xLdf k.t 0 0 false 1 a0 fun v0 =>
  xIxl k.t 1 false 1 v0 a1 fun v1 =>
  c [(4, v1)] k
theorem e75n3 (K : KTC) (k : KS) (a0 a1 : AV) (c : KN) (p : KV) : b75n3 K k a0 a1 c p = wReg Tryz.prog K [4] o75n3 [(0, a0), (1, a1)] k c p := by unfold b75n3; simp only [xIxl_eq, xLdf_eq]; kernel_rfl
noncomputable def s75n3 (K : KTC) (e : Env) (k : KS) (c : KN) (p : KV) : Kr := gt e 0 fun a0 => gt e 1 fun a1 => b75n3 K k a0 a1 c p
theorem p75n3 (K : KTC) (K' : KT) (hK : CSound K K') : FitsC Tryz.prog K' (.reg (s75n3 K)) (.reg o75n3 [4]) := fun e k c p y h => by
  obtain ⟨a0, h0, h⟩ := gt_some h
  obtain ⟨a1, h1, h⟩ := gt_some h
  exact wreg_fit hK (by decide +kernel) (keep_cons h0 (keep_cons h1 (keep_nil))) (e75n3 K k a0 a1 c p) h
def r75 : RFn := ⟨2, .seq (.reg o75n0 [0, 1]) (.seq (.seq (.reg o75n1 [0, 1, 15]) (.cond (.t 15) (.seq (.reg o75n2 [4]) (.ret)) (.skip))) (.seq (.reg o75n3 [4]) (.ret))), [.tmp 4], []⟩
noncomputable def q75 (K : KTC) : FK := .seq (.reg (s75n0 K)) (.seq (.seq (.reg fun e k c p => wReg Tryz.prog K [0, 1, 15] o75n1 e k c p) (.cond (.t 15) (.seq (.reg (s75n2 K)) (.ret)) (.skip))) (.seq (.reg (s75n3 K)) (.ret)))
theorem ok75 (K : KTC) (K' : KT) (hK : CSound K K') : FitsC Tryz.prog K' (q75 K) r75.code := hs (p75n0 K _ hK) (hs (hs (wslow_reg hK) (hc (hs (p75n2 K _ hK) (hr)) (hk))) (hs (p75n3 K _ hK) (hr)))
noncomputable def g75 : HFn Tryz.prog := ⟨r75, q75, ok75⟩
theorem c75 : chkF Tryz.prog Tryz.f75 r75 = true := by decide +kernel

/-! doubletake/packet.Right -/
def o76n0 : List RI := [⟨(some 1), none, (.al (.box (.t 0)))⟩, ⟨(some 2), none, (.q (.mov (.k (.bool false))))⟩]
noncomputable def b76n0 (K : KTC) (k : KS) (a0 : AV) (c : KN) (p : KV) : Kr :=
  pAl (evAl [(0, a0)] k.nx (.box (.t 0))) k fun v0 k0 =>
  c [(1, v0)] k0
theorem e76n0 (K : KTC) (k : KS) (a0 : AV) (c : KN) (p : KV) : b76n0 K k a0 c p = wReg Tryz.prog K [1] o76n0 [(0, a0)] k c p := by unfold b76n0; kernel_rfl
noncomputable def s76n0 (K : KTC) (e : Env) (k : KS) (c : KN) (p : KV) : Kr := gt e 0 fun a0 => b76n0 K k a0 c p
theorem p76n0 (K : KTC) (K' : KT) (hK : CSound K K') : FitsC Tryz.prog K' (.reg (s76n0 K)) (.reg o76n0 [1]) := fun e k c p y h => by
  obtain ⟨a0, h0, h⟩ := gt_some h
  exact wreg_fit hK (by decide +kernel) (keep_cons h0 (keep_nil)) (e76n0 K k a0 c p) h
def o76n1 : Plan := [(0, ⟨(some 3), none, (.rd (.ld true 13 (.t 1)))⟩, 0), (1, ⟨(some 4), none, (.ac (.callf 122 [(.t 3)]))⟩, 0), (2, ⟨(some 5), none, (.q (.un .not (.t 4)))⟩, 0), (3, ⟨(some 6), none, (.q (.mov (.t 5)))⟩, 0), (4, ⟨(some 7), (some (6, false)), (.rd (.ld true 13 (.t 1)))⟩, 0), (5, ⟨(some 8), (some (6, false)), (.ac (.callf 124 [(.t 7)]))⟩, 0), (6, ⟨(some 9), (some (6, false)), (.rd (.ld true 13 (.t 1)))⟩, 1), (7, ⟨(some 10), (some (6, false)), (.ac (.callf 123 [(.t 8), (.t 9)]))⟩, 0), (8, ⟨(some 11), (some (6, false)), (.q (.un .not (.t 10)))⟩, 0), (9, ⟨(some 12), none, (.q (.pick (.t 6) (.k (.bool true)) (.t 11)))⟩, 0), (10, ⟨(some 13), none, (.q (.mov (.t 12)))⟩, 0), (11, ⟨(some 14), (some (13, false)), (.q (.fld 6 6 (.t 1)))⟩, 0), (12, ⟨(some 15), (some (13, false)), (.rd (.ld false 1 (.t 14)))⟩, 0), (13, ⟨(some 16), (some (13, false)), (.ac (.callf 125 [(.t 15), (.k (.int .i64 0)), (.k (.int .i64 600))]))⟩, 0), (14, ⟨(some 17), (some (13, false)), (.q (.un .not (.t 16)))⟩, 0), (15, ⟨(some 18), none, (.q (.pick (.t 13) (.k (.bool true)) (.t 17)))⟩, 0), (16, ⟨(some 19), none, (.q (.mov (.t 18)))⟩, 0), (17, ⟨(some 20), (some (19, false)), (.q (.fld 7 7 (.t 1)))⟩, 0), (18, ⟨(some 21), (some (19, false)), (.rd (.ld false 1 (.t 20)))⟩, 0), (19, ⟨(some 22), (some (19, false)), (.ac (.callf 125 [(.t 21), (.k (.int .i64 0)), (.k (.int .i64 600))]))⟩, 0), (20, ⟨(some 23), (some (19, false)), (.q (.un .not (.t 22)))⟩, 0), (21, ⟨(some 24), none, (.q (.pick (.t 19) (.k (.bool true)) (.t 23)))⟩, 0), (22, ⟨(some 25), none, (.q (.mov (.t 24)))⟩, 0), (23, ⟨(some 26), (some (25, false)), (.q (.fld 11 11 (.t 1)))⟩, 0), (24, ⟨(some 27), (some (25, false)), (.rd (.ld false 1 (.t 26)))⟩, 0), (25, ⟨(some 28), (some (25, false)), (.ac (.callf 125 [(.t 27), (.k (.int .i64 0)), (.k (.int .i64 600))]))⟩, 0), (26, ⟨(some 29), (some (25, false)), (.q (.un .not (.t 28)))⟩, 0), (27, ⟨(some 30), none, (.q (.pick (.t 25) (.k (.bool true)) (.t 29)))⟩, 0), (28, ⟨(some 31), none, (.q (.mov (.t 30)))⟩, 0), (29, ⟨(some 32), (some (31, false)), (.q (.fld 12 12 (.t 1)))⟩, 0), (30, ⟨(some 33), (some (31, false)), (.rd (.ld false 1 (.t 32)))⟩, 0), (31, ⟨(some 34), (some (31, false)), (.ac (.callf 125 [(.t 33), (.k (.int .i64 0)), (.k (.int .i64 4611686018427387903))]))⟩, 0), (32, ⟨(some 35), (some (31, false)), (.q (.un .not (.t 34)))⟩, 0), (33, ⟨(some 36), none, (.q (.pick (.t 31) (.k (.bool true)) (.t 35)))⟩, 0)]
def o76n2 : List RI := [⟨(some 2), none, (.q (.mov (.k (.bool false))))⟩]
noncomputable def b76n2 (K : KTC) (k : KS) (a1 : AV) (c : KN) (p : KV) : Kr :=
  c [(1, a1), (2, (.sc (.bool false)))] k
theorem e76n2 (K : KTC) (k : KS) (a1 : AV) (c : KN) (p : KV) : b76n2 K k a1 c p = wReg Tryz.prog K [1, 2] o76n2 [(1, a1)] k c p := by unfold b76n2; kernel_rfl
noncomputable def s76n2 (K : KTC) (e : Env) (k : KS) (c : KN) (p : KV) : Kr := gt e 1 fun a1 => b76n2 K k a1 c p
theorem p76n2 (K : KTC) (K' : KT) (hK : CSound K K') : FitsC Tryz.prog K' (.reg (s76n2 K)) (.reg o76n2 [1, 2]) := fun e k c p y h => by
  obtain ⟨a1, h1, h⟩ := gt_some h
  exact wreg_fit hK (by decide +kernel) (keep_cons h1 (keep_nil)) (e76n2 K k a1 c p) h
def o76n3 : List RI := [⟨(some 37), none, (.q (.fld 0 0 (.t 1)))⟩, ⟨(some 38), none, (.rd (.ld false 1 (.t 37)))⟩]
noncomputable def b76n3 (K : KTC) (k : KS) (a1 : AV) (c : KN) (p : KV) : Kr :=
  xFld 0 0 a1 fun v0 =>
  xLd k.t false 1 v0 fun v1 =>
  c [(1, a1), (38, v1)] k
theorem e76n3 (K : KTC) (k : KS) (a1 : AV) (c : KN) (p : KV) : b76n3 K k a1 c p = wReg Tryz.prog K [1, 38] o76n3 [(1, a1)] k c p := by unfold b76n3; simp only [xLd_eq, xFld_eq]; kernel_rfl
noncomputable def s76n3 (K : KTC) (e : Env) (k : KS) (c : KN) (p : KV) : Kr := gt e 1 fun a1 => b76n3 K k a1 c p
theorem p76n3 (K : KTC) (K' : KT) (hK : CSound K K') : FitsC Tryz.prog K' (.reg (s76n3 K)) (.reg o76n3 [1, 38]) := fun e k c p y h => by
  obtain ⟨a1, h1, h⟩ := gt_some h
  exact wreg_fit hK (by decide +kernel) (keep_cons h1 (keep_nil)) (e76n3 K k a1 c p) h
def o76n4 : List RI := [⟨(some 40), none, (.q (.bin .eql 3 (.t 38) (.k (.int .i64 2))))⟩, ⟨(some 39), none, (.q (.mov (.t 40)))⟩]
noncomputable def b76n4 (K : KTC) (k : KS) (a38 a1 : AV) (c : KN) (p : KV) : Kr :=
  xEql 3 a38 (.sc (.int .i64 2)) fun v0 =>
  c [(1, a1), (38, a38), (39, v0)] k
theorem e76n4 (K : KTC) (k : KS) (a38 a1 : AV) (c : KN) (p : KV) : b76n4 K k a38 a1 c p = wReg Tryz.prog K [1, 38, 39] o76n4 [(38, a38), (1, a1)] k c p := by unfold b76n4; simp only [xEql_eq]; kernel_rfl
noncomputable def s76n4 (K : KTC) (e : Env) (k : KS) (c : KN) (p : KV) : Kr := gt e 38 fun a38 => gt e 1 fun a1 => b76n4 K k a38 a1 c p
theorem p76n4 (K : KTC) (K' : KT) (hK : CSound K K') : FitsC Tryz.prog K' (.reg (s76n4 K)) (.reg o76n4 [1, 38, 39]) := fun e k c p y h => by
  obtain ⟨a38, h38, h⟩ := gt_some h
  obtain ⟨a1, h1, h⟩ := gt_some h
  exact wreg_fit hK (by decide +kernel) (keep_cons h38 (keep_cons h1 (keep_nil))) (e76n4 K k a38 a1 c p) h
def o76n5 : List RI := [⟨(some 41), none, (.q (.fld 8 8 (.t 1)))⟩, ⟨(some 42), none, (.rd (.ld false 1 (.t 41)))⟩, ⟨(some 43), none, (.q (.len false (.t 42)))⟩, ⟨(some 44), none, (.q (.bin .leq 3 (.t 43) (.k (.int .i64 16))))⟩, ⟨(some 45), none, (.q (.mov (.t 44)))⟩, ⟨(some 46), (some (45, true)), (.q (.fld 8 8 (.t 1)))⟩, ⟨(some 47), (some (45, true)), (.rd (.ld false 1 (.t 46)))⟩, ⟨(some 48), (some (45, true)), (.ac (.callf 126 [(.t 47), (.fn 127)]))⟩, ⟨(some 49), (some (45, true)), (.q (.un .not (.t 48)))⟩, ⟨(some 50), none, (.q (.pick (.t 45) (.t 49) (.k (.bool false))))⟩, ⟨(some 2), none, (.q (.mov (.t 50)))⟩]
def o76n6 : List RI := [⟨(some 52), none, (.q (.bin .eql 3 (.t 38) (.k (.int .i64 3))))⟩, ⟨(some 51), none, (.q (.mov (.t 52)))⟩]
noncomputable def b76n6 (K : KTC) (k : KS) (a38 a1 : AV) (c : KN) (p : KV) : Kr :=
  xEql 3 a38 (.sc (.int .i64 3)) fun v0 =>
  c [(1, a1), (51, v0)] k
theorem e76n6 (K : KTC) (k : KS) (a38 a1 : AV) (c : KN) (p : KV) : b76n6 K k a38 a1 c p = wReg Tryz.prog K [1, 51] o76n6 [(38, a38), (1, a1)] k c p := by unfold b76n6; simp only [xEql_eq]; kernel_rfl
noncomputable def s76n6 (K : KTC) (e : Env) (k : KS) (c : KN) (p : KV) : Kr := gt e 38 fun a38 => gt e 1 fun a1 => b76n6 K k a38 a1 c p
theorem p76n6 (K : KTC) (K' : KT) (hK : CSound K K') : FitsC Tryz.prog K' (.reg (s76n6 K)) (.reg o76n6 [1, 51]) := fun e k c p y h => by
  obtain ⟨a38, h38, h⟩ := gt_some h
  obtain ⟨a1, h1, h⟩ := gt_some h
  exact wreg_fit hK (by decide +kernel) (keep_cons h38 (keep_cons h1 (keep_nil))) (e76n6 K k a38 a1 c p) h
def o76n7 : List RI := [⟨(some 53), none, (.q (.fld 10 10 (.t 1)))⟩, ⟨(some 54), none, (.rd (.ld false 1 (.t 53)))⟩, ⟨(some 55), none, (.q (.fld 9 9 (.t 1)))⟩, ⟨(some 56), none, (.rd (.ld false 1 (.t 55)))⟩, ⟨(some 57), none, (.ac (.callf 129 [(.t 54), (.t 56)]))⟩, ⟨(some 2), none, (.q (.mov (.t 57)))⟩]
noncomputable def b76n7 (K : KTC) (k : KS) (a1 : AV) (c : KN) (p : KV) : Kr :=
  xFld 10 10 a1 fun v0 =>
  xLd k.t false 1 v0 fun v1 =>
  xFld 9 9 a1 fun v2 =>
  xLd k.t false 1 v2 fun v3 =>
  K 129 [v1, v3] k (fun v4 k4 =>
  c [(1, a1), (2, v4)] k4) (p)
theorem e76n7 (K : KTC) (k : KS) (a1 : AV) (c : KN) (p : KV) : b76n7 K k a1 c p = wReg Tryz.prog K [1, 2] o76n7 [(1, a1)] k c p := by unfold b76n7; simp only [xLd_eq, xFld_eq]; kernel_rfl
noncomputable def s76n7 (K : KTC) (e : Env) (k : KS) (c : KN) (p : KV) : Kr := gt e 1 fun a1 => b76n7 K k a1 c p
theorem p76n7 (K : KTC) (K' : KT) (hK : CSound K K') : FitsC Tryz.prog K' (.reg (s76n7 K)) (.reg o76n7 [1, 2]) := fun e k c p y h => by
  obtain ⟨a1, h1, h⟩ := gt_some h
  exact wreg_fit hK (by decide +kernel) (keep_cons h1 (keep_nil)) (e76n7 K k a1 c p) h
def o76n8 : List RI := [⟨(some 2), none, (.q (.mov (.k (.bool true))))⟩]
noncomputable def b76n8 (K : KTC) (k : KS) (a1 : AV) (c : KN) (p : KV) : Kr :=
  c [(1, a1), (2, (.sc (.bool true)))] k
theorem e76n8 (K : KTC) (k : KS) (a1 : AV) (c : KN) (p : KV) : b76n8 K k a1 c p = wReg Tryz.prog K [1, 2] o76n8 [(1, a1)] k c p := by unfold b76n8; kernel_rfl
noncomputable def s76n8 (K : KTC) (e : Env) (k : KS) (c : KN) (p : KV) : Kr := gt e 1 fun a1 => b76n8 K k a1 c p
theorem p76n8 (K : KTC) (K' : KT) (hK : CSound K K') : FitsC Tryz.prog K' (.reg (s76n8 K)) (.reg o76n8 [1, 2]) := fun e k c p y h => by
  obtain ⟨a1, h1, h⟩ := gt_some h
  exact wreg_fit hK (by decide +kernel) (keep_cons h1 (keep_nil)) (e76n8 K k a1 c p) h
def r76 : RFn := ⟨1, .seq (.reg o76n0 [1]) (.seq (.seq (.draw o76n1 [1, 36]) (.cond (.t 36) (.seq (.reg o76n2 [1, 2]) (.ret)) (.skip))) (.seq (.seq (.reg o76n3 [1, 38]) (.block 0 (.seq (.reg o76n4 [1, 38, 39]) (.cond (.t 39) (.seq (.reg o76n5 [1, 2]) (.ret)) (.seq (.reg o76n6 [1, 51]) (.cond (.t 51) (.seq (.reg o76n7 [1, 2]) (.ret)) (.skip))))))) (.seq (.reg o76n8 [1, 2]) (.ret)))), [.tmp 2], [1]⟩
noncomputable def q76 (K : KTC) : FK := .seq (.reg (s76n0 K)) (.seq (.seq (.reg fun e k c p => wLive Tryz.prog K [1, 36] o76n1 e k k.t [] c p) (.cond (.t 36) (.seq (.reg (s76n2 K)) (.ret)) (.skip))) (.seq (.seq (.reg (s76n3 K)) (.block 0 (.seq (.reg (s76n4 K)) (.cond (.t 39) (.seq (.reg fun e k c p => wReg Tryz.prog K [1, 2] o76n5 e k c p) (.ret)) (.seq (.reg (s76n6 K)) (.cond (.t 51) (.seq (.reg (s76n7 K)) (.ret)) (.skip))))))) (.seq (.reg (s76n8 K)) (.ret))))
theorem ok76 (K : KTC) (K' : KT) (hK : CSound K K') : FitsC Tryz.prog K' (q76 K) r76.code := hs (p76n0 K _ hK) (hs (hs (wslow_draw hK) (hc (hs (p76n2 K _ hK) (hr)) (hk))) (hs (hs (p76n3 K _ hK) (hb (hs (p76n4 K _ hK) (hc (hs (wslow_reg hK) (hr)) (hs (p76n6 K _ hK) (hc (hs (p76n7 K _ hK) (hr)) (hk))))))) (hs (p76n8 K _ hK) (hr))))
noncomputable def g76 : HFn Tryz.prog := ⟨r76, q76, ok76⟩
theorem c76 : chkF Tryz.prog Tryz.f76 r76 = true := by decide +kernel

/-- doubletake/packet.Lay -/
def r77 : RFn := ⟨2,
  .seq (
  .reg [⟨(some 3), none, (.al (.box (.t 1)))⟩,
    ⟨(some 4), none, (.q (.mov .nils))⟩,
    ⟨(some 5), none, (.q (.mov (.k (.int .i64 0))))⟩] [0, 3]) (
  .seq (
  .seq (
  .reg [⟨(some 6), none, (.rd (.ld true 13 (.t 3)))⟩,
    ⟨(some 7), none, (.ac (.callf 76 [(.t 6)]))⟩,
    ⟨(some 8), none, (.q (.un .not (.t 7)))⟩] [0, 3, 8]) (
  .cond (.t 8) (
   .seq (
   .reg [⟨(some 4), none, (.q (.mov .nils))⟩,
     ⟨(some 5), none, (.q (.mov (.k (.int .i64 1))))⟩] [3, 4, 5]) (
   .ret)) (
   .skip))) (
  .seq (
  .reg [⟨(some 9), none, (.q (.mov (.t 0)))⟩,
    ⟨(some 10), none, (.rd (.ld true 13 (.t 3)))⟩,
    ⟨(some 11), none, (.ac (.callf 131 [(.t 10)]))⟩,
    ⟨(some 12), none, (.ac (.callf 130 [(.t 9), (.t 11)]))⟩,
    ⟨(some 4), none, (.q (.mov (.t 12)))⟩,
    ⟨(some 5), none, (.q (.mov (.k (.int .i64 0))))⟩] [3, 4, 5]) (
  .ret))),
  [.tmp 4, .tmp 5], [3]⟩
noncomputable def g77 : HFn Tryz.prog := ⟨r77, fun K => wslow Tryz.prog K r77.code, fun _ _ hK => wslow_fits hK _ (by decide +kernel)⟩
theorem c77 : chkF Tryz.prog Tryz.f77 r77 = true := by decide +kernel

/-- (*doubletake/link.Link).Send -/
def r78 : RFn := ⟨3,
  .seq (
  .reg [⟨(some 4), none, (.al (.box (.t 1)))⟩,
    ⟨(some 6), none, (.al (.alloc (.agg [1, 1, 1, 1, 1, 1, 1, 1, 1, 1, 1, 1, 1] [(.sc (.int .i64 0)), (.sc (.int .i64 0)), (.sc (.int .i64 0)), (.sc (.int .i64 0)), (.sc (.bool false)), (.sc (.int .u64 0)), (.sc (.int .i64 0)), (.sc (.int .i64 0)), (.slice none 0), (.sc (.int .i64 0)), (.slice none 0), (.sc (.int .i64 0)), (.sc (.int .i64 0))])))⟩] [0, 2, 4, 6]) (
  .seq (
  .draw [(4, ⟨(some 11), none, (.q (.mov (.t 0)))⟩, 0),
    (5, ⟨(some 12), none, (.q (.nchk (.t 11)))⟩, 0),
    (6, ⟨(some 13), none, (.q (.fld 2 2 (.t 12)))⟩, 0),
    (7, ⟨(some 14), none, (.ac (.callf 132 [(.t 13)]))⟩, 0),
    (0, ⟨(some 7), none, (.q (.mov (.t 0)))⟩, 1),
    (1, ⟨(some 8), none, (.q (.nchk (.t 7)))⟩, 1),
    (2, ⟨(some 9), none, (.q (.fld 0 0 (.t 8)))⟩, 1),
    (3, ⟨(some 10), none, (.rd (.ld false 1 (.t 9)))⟩, 1),
    (8, ⟨(some 15), none, (.q (.fld 2 2 (.t 4)))⟩, 1),
    (9, ⟨none, none, (.ac (.st 1 (.t 15) (.t 10)))⟩, 0),
    (10, ⟨(some 16), none, (.q (.fld 4 4 (.t 4)))⟩, 0),
    (11, ⟨none, none, (.ac (.st 1 (.t 16) (.t 14)))⟩, 0),
    (12, ⟨(some 17), none, (.q (.fld 3 3 (.t 4)))⟩, 0),
    (13, ⟨none, none, (.ac (.st 1 (.t 17) (.k (.int .i64 0))))⟩, 0),
    (14, ⟨(some 18), none, (.q (.fld 5 5 (.t 4)))⟩, 0),
    (15, ⟨none, none, (.ac (.st 1 (.t 18) (.k (.int .u64 0))))⟩, 0)] [0, 2, 4, 6]) (
  .seq (
  .seq (
  .reg [⟨(some 19), none, (.q (.fld 4 4 (.t 4)))⟩,
    ⟨(some 20), none, (.rd (.ld false 1 (.t 19)))⟩] [0, 2, 4, 6, 20]) (
  .cond (.t 20) (
   .draw [(0, ⟨(some 21), none, (.q (.mov (.t 0)))⟩, 0),
     (1, ⟨(some 22), none, (.q (.nchk (.t 21)))⟩, 0),
     (2, ⟨(some 23), none, (.q (.fld 2 2 (.t 22)))⟩, 0),
     (3, ⟨(some 24), none, (.ac (.callf 133 [(.t 23)]))⟩, 0),
     (4, ⟨(some 25), none, (.q (.mov (.t 0)))⟩, 1),
     (5, ⟨(some 26), none, (.q (.nchk (.t 25)))⟩, 1),
     (6, ⟨(some 27), none, (.q (.fld 2 2 (.t 26)))⟩, 1),
     (7, ⟨(some 28), none, (.ac (.callf 134 [(.t 27)]))⟩, 0),
     (8, ⟨(some 29), none, (.q (.fld 3 3 (.t 4)))⟩, 1),
     (9, ⟨none, none, (.ac (.st 1 (.t 29) (.t 24)))⟩, 0),
     (10, ⟨(some 30), none, (.q (.fld 5 5 (.t 4)))⟩, 0),
     (11, ⟨none, none, (.ac (.st 1 (.t 30) (.t 28)))⟩, 0)] [0, 2, 4, 6]) (
   .skip))) (
  .seq (
  .reg [⟨(some 31), none, (.q (.mov (.t 0)))⟩,
    ⟨(some 32), none, (.q (.mov (.t 0)))⟩,
    ⟨(some 33), none, (.q (.nchk (.t 32)))⟩,
    ⟨(some 34), none, (.q (.fld 0 0 (.t 33)))⟩,
    ⟨(some 35), none, (.rd (.ld false 1 (.t 34)))⟩,
    ⟨(some 36), none, (.ac (.callf 135 [(.t 35)]))⟩,
    ⟨(some 37), none, (.q (.nchk (.t 31)))⟩,
    ⟨(some 38), none, (.q (.fld 0 0 (.t 37)))⟩,
    ⟨none, none, (.ac (.st 1 (.t 38) (.t 36)))⟩] [0, 2, 4, 6]) (
  .seq (
  .draw [(7, ⟨(some 46), none, (.q (.mov (.t 2)))⟩, 0),
    (8, ⟨(some 47), none, (.ac (.callf 136 [(.t 46)]))⟩, 0),
    (1, ⟨(some 40), none, (.q (.mov (.t 0)))⟩, 1),
    (2, ⟨(some 41), none, (.q (.nchk (.t 40)))⟩, 1),
    (3, ⟨(some 42), none, (.q (.fld 1 1 (.t 41)))⟩, 1),
    (4, ⟨(some 43), none, (.rd (.ld false 1 (.t 42)))⟩, 1),
    (5, ⟨(some 44), none, (.q (.fld 2 2 (.t 4)))⟩, 1),
    (6, ⟨(some 45), none, (.rd (.ld false 1 (.t 44)))⟩, 1),
    (9, ⟨(some 48), none, (.q (.bld (.agg [1, 1] [(.sc (.int .i64 0)), (.sc (.int .i64 0))]) [(0, (.t 45)), (1, (.t 47))]))⟩, 0),
    (10, ⟨(some 49), none, (.al (.bldS 2 1 (.agg [1, 1] [(.sc (.int .i64 0)), (.sc (.int .i64 0))]) [(0, (.t 48))]))⟩, 0),
    (11, ⟨(some 50), none, (.ac (.app true 2 16 (.t 43) (.t 49)))⟩, 0),
    (0, ⟨(some 39), none, (.q (.mov (.t 0)))⟩, 2),
    (12, ⟨(some 51), none, (.q (.nchk (.t 39)))⟩, 0),
    (13, ⟨(some 52), none, (.q (.fld 1 1 (.t 51)))⟩, 0),
    (14, ⟨none, none, (.ac (.st 1 (.t 52) (.t 50)))⟩, 0)] [0, 4, 6]) (
  .seq (
  .draw [(1, ⟨(some 54), none, (.q (.mov (.t 0)))⟩, 0),
    (2, ⟨(some 55), none, (.q (.nchk (.t 54)))⟩, 0),
    (3, ⟨(some 56), none, (.q (.fld 1 1 (.t 55)))⟩, 0),
    (4, ⟨(some 57), none, (.rd (.ld false 1 (.t 56)))⟩, 0),
    (5, ⟨(some 58), none, (.q (.mov (.t 0)))⟩, 0),
    (6, ⟨(some 59), none, (.q (.nchk (.t 58)))⟩, 0),
    (7, ⟨(some 60), none, (.q (.fld 1 1 (.t 59)))⟩, 0),
    (8, ⟨(some 61), none, (.rd (.ld false 1 (.t 60)))⟩, 0),
    (9, ⟨(some 62), none, (.q (.len false (.t 61)))⟩, 0),
    (10, ⟨(some 63), none, (.q (.bin .sub 3 (.t 62) (.k (.int .i64 32))))⟩, 0),
    (11, ⟨(some 64), none, (.q (.mm true [(.k (.int .i64 0)), (.t 63)]))⟩, 0),
    (12, ⟨(some 65), none, (.q (.slc 2 (.t 57) (some (.t 64)) none))⟩, 0),
    (13, ⟨(some 66), none, (.ac (.callf 137 [(.t 65)]))⟩, 0),
    (0, ⟨(some 53), none, (.q (.mov (.t 0)))⟩, 1),
    (14, ⟨(some 67), none, (.q (.nchk (.t 53)))⟩, 0),
    (15, ⟨(some 68), none, (.q (.fld 1 1 (.t 67)))⟩, 0),
    (16, ⟨none, none, (.ac (.st 1 (.t 68) (.t 66)))⟩, 0)] [4, 6]) (
  .seq (
  .reg [⟨(some 69), none, (.rd (.ld true 13 (.t 4)))⟩,
    ⟨none, none, (.ac (.st 13 (.t 6) (.t 69)))⟩] [4, 6]) (
  .ret))))))),
  [.cell 6 true 13], [4, 6]⟩
noncomputable def g78 : HFn Tryz.prog := ⟨r78, fun K => wslow Tryz.prog K r78.code, fun _ _ hK => wslow_fits hK _ (by decide +kernel)⟩
theorem c78 : chkF Tryz.prog Tryz.f78 r78 = true := by decide +kernel

/-- (*doubletake/doubletakeref1.Reader).Signed -/
def r79 : RFn := ⟨2,
  .seq (
  .reg [⟨(some 4), none, (.q (.mov (.k (.int .i64 0))))⟩] [0, 1]) (
  .seq (
  .reg [⟨(some 6), none, (.q (.mov (.t 0)))⟩,
    ⟨(some 7), none, (.q (.mov (.t 1)))⟩,
    ⟨(some 8), none, (.ac (.callf 47 [(.t 6), (.t 7)]))⟩,
    ⟨(some 5), none, (.q (.mov (.t 8)))⟩] [1, 5]) (
  .seq (
  .reg [⟨(some 9), none, (.q (.mov (.t 1)))⟩,
    ⟨(some 10), none, (.q (.mm false [(.k (.int .i64 64)), (.t 9)]))⟩,
    ⟨(some 11), none, (.q (.mm true [(.k (.int .i64 0)), (.t 10)]))⟩,
    ⟨(some 1), none, (.q (.mov (.t 11)))⟩] [1, 5]) (
  .seq (
  .seq (
  .reg [⟨(some 12), none, (.q (.mov (.t 1)))⟩,
    ⟨(some 13), none, (.q (.bin .eql 3 (.t 12) (.k (.int .i64 0))))⟩] [1, 5, 13]) (
  .cond (.t 13) (
   .seq (
   .reg [⟨(some 4), none, (.q (.mov (.k (.int .i64 0))))⟩] [4]) (
   .ret)) (
   .skip))) (
  .seq (
  .seq (
  .reg [⟨(some 14), none, (.q (.mov (.t 5)))⟩,
    ⟨(some 15), none, (.q (.mov (.t 1)))⟩,
    ⟨(some 16), none, (.q (.bin .sub 3 (.t 15) (.k (.int .i64 1))))⟩,
    ⟨(some 17), none, (.q (.conv 3 165 (.t 16)))⟩,
    ⟨(some 18), none, (.q (.bin .shr 39 (.t 14) (.t 17)))⟩,
    ⟨(some 19), none, (.q (.bin .and 39 (.t 18) (.k (.int .u64 1))))⟩,
    ⟨(some 20), none, (.q (.bin .eql 39 (.t 19) (.k (.int .u64 1))))⟩,
    ⟨(some 21), none, (.q (.mov (.t 20)))⟩,
    ⟨(some 22), (some (21, true)), (.q (.mov (.t 1)))⟩,
    ⟨(some 23), (some (21, true)), (.q (.bin .lss 3 (.t 22) (.k (.int .i64 64))))⟩,
    ⟨(some 24), none, (.q (.pick (.t 21) (.t 23) (.k (.bool false))))⟩] [1, 5, 24]) (
  .cond (.t 24) (
   .seq (
   .reg [⟨(some 25), none, (.q (.mov (.t 5)))⟩,
     ⟨(some 26), none, (.q (.conv 39 3 (.t 25)))⟩,
     ⟨(some 27), none, (.q (.mov (.t 1)))⟩,
     ⟨(some 28), none, (.q (.conv 3 165 (.t 27)))⟩,
     ⟨(some 29), none, (.q (.bin .shl 3 (.k (.int .i64 1)) (.t 28)))⟩,
     ⟨(some 30), none, (.q (.bin .sub 3 (.t 26) (.t 29)))⟩,
     ⟨(some 4), none, (.q (.mov (.t 30)))⟩] [4]) (
   .ret)) (
   .skip))) (
  .seq (
  .reg [⟨(some 31), none, (.q (.mov (.t 5)))⟩,
    ⟨(some 32), none, (.q (.conv 39 3 (.t 31)))⟩,
    ⟨(some 4), none, (.q (.mov (.t 32)))⟩] [4]) (
  .ret)))))),
  [.tmp 4], []⟩
noncomputable def g79 : HFn Tryz.prog := ⟨r79, fun K => wslow Tryz.prog K r79.code, fun _ _ hK => wslow_fits hK _ (by decide +kernel)⟩
theorem c79 : chkF Tryz.prog Tryz.f79 r79 = true := by decide +kernel

/-! doubletake/doubletakeref11.RightState -/
def o80n0 : List RI := [⟨(some 2), none, (.al (.box (.t 0)))⟩, ⟨(some 3), none, (.al (.box (.t 1)))⟩, ⟨(some 4), none, (.q (.mov (.k (.bool false))))⟩]
noncomputable def b80n0 (K : KTC) (k : KS) (a0 a1 : AV) (x : Env) (c : KN) (p : KV) : Kr :=
  pAl (evAl [(0, a0)] k.nx (.box (.t 0))) k fun v0 k0 =>
  pAl (evAl [(1, a1)] k0.nx (.box (.t 1))) k0 fun v1 k1 =>
  c (Env.keep ([(2, v0), (3, v1)] ++ x) [2, 3, 6]) k1
theorem e80n0 (K : KTC) (k : KS) (a0 a1 : AV) (x : Env) (c : KN) (p : KV) : b80n0 K k a0 a1 x c p = wReg Tryz.prog K [2, 3, 6] o80n0 ([(0, a0), (1, a1)] ++ x) k c p := by unfold b80n0; kernel_rfl
noncomputable def s80n0 (K : KTC) (e : Env) (k : KS) (c : KN) (p : KV) : Kr := gt e 0 fun a0 => gt e 1 fun a1 => b80n0 K k a0 a1 (e.keep [6]) c p
theorem p80n0 (K : KTC) (K' : KT) (hK : CSound K K') : FitsC Tryz.prog K' (.reg (s80n0 K)) (.reg o80n0 [2, 3, 6]) := fun e k c p y h => by
  obtain ⟨a0, h0, h⟩ := gt_some h
  obtain ⟨a1, h1, h⟩ := gt_some h
  exact wreg_fit hK (by decide +kernel) (keep_cons h0 (keep_cons h1 (rfl))) (e80n0 K k a0 a1 (e.keep [6]) c p) h
def o80n1 : List RI := [⟨(some 8), none, (.rd (.ld true 10 (.t 2)))⟩, ⟨(some 9), none, (.ac (.callf 138 [(.t 8)]))⟩, ⟨(some 10), none, (.q (.un .not (.t 9)))⟩, ⟨(some 11), none, (.q (.mov (.t 10)))⟩, ⟨(some 12), (some (11, false)), (.q (.fld 0 0 (.t 3)))⟩, ⟨(some 13), (some (11, false)), (.rd (.ld false 1 (.t 12)))⟩, ⟨(some 14), (some (11, false)), (.ac (.callf 139 [(.t 13), (.k (.int .i64 0)), (.k (.int .i64 600))]))⟩, ⟨(some 15), (some (11, false)), (.q (.un .not (.t 14)))⟩, ⟨(some 16), none, (.q (.pick (.t 11) (.k (.bool true)) (.t 15)))⟩]
def o80n2 : List RI := [⟨(some 4), none, (.q (.mov (.k (.bool false))))⟩]
noncomputable def b80n2 (K : KTC) (k : KS) (a2 a3 : AV) (x : Env) (c : KN) (p : KV) : Kr :=
  c (Env.keep ([(2, a2), (3, a3), (4, (.sc (.bool false)))] ++ x) [2, 3, 4, 6]) k
theorem e80n2 (K : KTC) (k : KS) (a2 a3 : AV) (x : Env) (c : KN) (p : KV) : b80n2 K k a2 a3 x c p = wReg Tryz.prog K [2, 3, 4, 6] o80n2 ([(2, a2), (3, a3)] ++ x) k c p := by unfold b80n2; kernel_rfl
noncomputable def s80n2 (K : KTC) (e : Env) (k : KS) (c : KN) (p : KV) : Kr := gt e 2 fun a2 => gt e 3 fun a3 => b80n2 K k a2 a3 (e.keep [6]) c p
theorem p80n2 (K : KTC) (K' : KT) (hK : CSound K K') : FitsC Tryz.prog K' (.reg (s80n2 K)) (.reg o80n2 [2, 3, 4, 6]) := fun e k c p y h => by
  obtain ⟨a2, h2, h⟩ := gt_some h
  obtain ⟨a3, h3, h⟩ := gt_some h
  exact wreg_fit hK (by decide +kernel) (keep_cons h2 (keep_cons h3 (rfl))) (e80n2 K k a2 a3 (e.keep [6]) c p) h
def o80n3 : List RI := [⟨(some 5), none, (.q (.mov (.k (.int .i64 0))))⟩]
noncomputable def b80n3 (K : KTC) (k : KS) (a2 a3 : AV) (c : KN) (p : KV) : Kr :=
  c [(2, a2), (3, a3), (5, (.sc (.int .i64 0)))] k
theorem e80n3 (K : KTC) (k : KS) (a2 a3 : AV) (c : KN) (p : KV) : b80n3 K k a2 a3 c p = wReg Tryz.prog K [2, 3, 5] o80n3 [(2, a2), (3, a3)] k c p := by unfold b80n3; kernel_rfl
noncomputable def s80n3 (K : KTC) (e : Env) (k : KS) (c : KN) (p : KV) : Kr := gt e 2 fun a2 => gt e 3 fun a3 => b80n3 K k a2 a3 c p
theorem p80n3 (K : KTC) (K' : KT) (hK : CSound K K') : FitsC Tryz.prog K' (.reg (s80n3 K)) (.reg o80n3 [2, 3, 5]) := fun e k c p y h => by
  obtain ⟨a2, h2, h⟩ := gt_some h
  obtain ⟨a3, h3, h⟩ := gt_some h
  exact wreg_fit hK (by decide +kernel) (keep_cons h2 (keep_cons h3 (keep_nil))) (e80n3 K k a2 a3 c p) h
def o80n4 : List RI := [⟨(some 17), none, (.q (.mov (.t 5)))⟩, ⟨(some 18), none, (.q (.bin .lss 3 (.t 17) (.k (.int .i64 16))))⟩]
noncomputable def b80n4 (K : KTC) (k : KS) (a5 a2 a3 : AV) (x : Env) (c : KN) (p : KV) : Kr :=
  xLss 3 a5 (.sc (.int .i64 16)) fun v0 =>
  c (Env.keep ([(2, a2), (3, a3), (5, a5), (18, v0)] ++ x) [2, 3, 5, 6, 18]) k
theorem e80n4 (K : KTC) (k : KS) (a5 a2 a3 : AV) (x : Env) (c : KN) (p : KV) : b80n4 K k a5 a2 a3 x c p = wReg Tryz.prog K [2, 3, 5, 6, 18] o80n4 ([(5, a5), (2, a2), (3, a3)] ++ x) k c p := by unfold b80n4; simp only [xLss_eq]; kernel_rfl
noncomputable def s80n4 (K : KTC) (e : Env) (k : KS) (c : KN) (p : KV) : Kr := gt e 5 fun a5 => gt e 2 fun a2 => gt e 3 fun a3 => b80n4 K k a5 a2 a3 (e.keep [6]) c p
theorem p80n4 (K : KTC) (K' : KT) (hK : CSound K K') : FitsC Tryz.prog K' (.reg (s80n4 K)) (.reg o80n4 [2, 3, 5, 6, 18]) := fun e k c p y h => by
  obtain ⟨a5, h5, h⟩ := gt_some h
  obtain ⟨a2, h2, h⟩ := gt_some h
  obtain ⟨a3, h3, h⟩ := gt_some h
  exact wreg_fit hK (by decide +kernel) (keep_cons h5 (keep_cons h2 (keep_cons h3 (rfl)))) (e80n4 K k a5 a2 a3 (e.keep [6]) c p) h
def o80n5 : List RI := [⟨(some 21), none, (.q (.mov (.t 5)))⟩, ⟨(some 22), none, (.q (.fld 2 2 (.t 3)))⟩, ⟨(some 23), none, (.q (.ixa 16 12 (.t 22) (.t 21)))⟩, ⟨(some 24), none, (.rd (.ld true 12 (.t 23)))⟩, ⟨(some 6), none, (.al (.alloc (.agg [1, 1, 1, 1, 1, 1, 1, 4, 1] [(.sc (.int .i64 0)), (.sc (.int .i64 0)), (.sc (.int .i64 0)), (.sc (.int .i64 0)), (.sc (.int .i64 0)), (.sc (.int .i64 0)), (.sc (.int .i64 0)), (.arr 1 (List.replicate 4 (.sc (.int .i64 0)))), (.sc (.int .i64 0))])))⟩, ⟨none, none, (.ac (.st 12 (.t 6) (.t 24)))⟩]
noncomputable def b80n5 (K : KTC) (k : KS) (a5 a3 a2 : AV) (c : KN) (p : KV) : Kr :=
  xFld 2 2 a3 fun v0 =>
  (kQ Tryz.prog [(22, v0), (21, a5)] (.ixa 16 12 (.t 22) (.t 21))).bind fun v1 =>
  xLd k.t true 12 v1 fun v2 =>
  xAlloc (.agg [1, 1, 1, 1, 1, 1, 1, 4, 1] [(.sc (.int .i64 0)), (.sc (.int .i64 0)), (.sc (.int .i64 0)), (.sc (.int .i64 0)), (.sc (.int .i64 0)), (.sc (.int .i64 0)), (.sc (.int .i64 0)), (.arr 1 (List.replicate 4 (.sc (.int .i64 0)))), (.sc (.int .i64 0))]) k fun v3 k3 =>
  pCall (kA (fun _ _ _ => none) [(6, v3), (24, v2)] k3 (.st 12 (.t 6) (.t 24))) (fun v4 k4 =>
  c [(2, a2), (3, a3), (5, a5), (6, v3)] k4) (p)
theorem e80n5 (K : KTC) (k : KS) (a5 a3 a2 : AV) (c : KN) (p : KV) : b80n5 K k a5 a3 a2 c p = wReg Tryz.prog K [2, 3, 5, 6] o80n5 [(5, a5), (3, a3), (2, a2)] k c p := by unfold b80n5; simp only [xAlloc_eq, xLd_eq, xFld_eq]; kernel_rfl
noncomputable def s80n5 (K : KTC) (e : Env) (k : KS) (c : KN) (p : KV) : Kr := gt e 5 fun a5 => gt e 3 fun a3 => gt e 2 fun a2 => b80n5 K k a5 a3 a2 c p
theorem p80n5 (K : KTC) (K' : KT) (hK : CSound K K') : FitsC Tryz.prog K' (.reg (s80n5 K)) (.reg o80n5 [2, 3, 5, 6]) := fun e k c p y h => by
  obtain ⟨a5, h5, h⟩ := gt_some h
  obtain ⟨a3, h3, h⟩ := gt_some h
  obtain ⟨a2, h2, h⟩ := gt_some h
  exact wreg_fit hK (by decide +kernel) (keep_cons h5 (keep_cons h3 (keep_cons h2 (keep_nil)))) (e80n5 K k a5 a3 a2 c p) h
def o80n6 : List RI := [⟨(some 25), none, (.rd (.ld true 12 (.t 6)))⟩, ⟨(some 26), none, (.ac (.callf 140 [(.t 25)]))⟩, ⟨(some 27), none, (.q (.un .not (.t 26)))⟩, ⟨(some 28), none, (.q (.mov (.t 27)))⟩, ⟨(some 29), (some (28, false)), (.q (.fld 0 0 (.t 6)))⟩, ⟨(some 30), (some (28, false)), (.rd (.ld false 1 (.t 29)))⟩, ⟨(some 31), (some (28, false)), (.q (.bin .neq 3 (.t 30) (.k (.int .i64 0))))⟩, ⟨(some 32), (some (28, false)), (.q (.mov (.t 31)))⟩, ⟨(some 33), (some (32, true)), (.q (.fld 1 1 (.t 6)))⟩, ⟨(some 34), (some (32, true)), (.rd (.ld false 1 (.t 33)))⟩, ⟨(some 35), (some (32, true)), (.q (.fld 0 0 (.t 2)))⟩, ⟨(some 36), (some (32, true)), (.rd (.ld false 1 (.t 35)))⟩, ⟨(some 37), (some (32, true)), (.q (.bin .geq 3 (.t 34) (.t 36)))⟩, ⟨(some 38), (some (28, false)), (.q (.pick (.t 32) (.t 37) (.k (.bool false))))⟩, ⟨(some 39), none, (.q (.pick (.t 28) (.k (.bool true)) (.t 38)))⟩, ⟨(some 40), none, (.q (.mov (.t 39)))⟩, ⟨(some 41), (some (40, false)), (.q (.fld 0 0 (.t 6)))⟩, ⟨(some 42), (some (40, false)), (.rd (.ld false 1 (.t 41)))⟩, ⟨(some 43), (some (40, false)), (.q (.bin .eql 3 (.t 42) (.k (.int .i64 1))))⟩, ⟨(some 44), (some (40, false)), (.q (.mov (.t 5)))⟩, ⟨(some 45), (some (40, false)), (.q (.fld 0 0 (.t 2)))⟩, ⟨(some 46), (some (40, false)), (.rd (.ld false 1 (.t 45)))⟩, ⟨(some 47), (some (40, false)), (.q (.bin .lss 3 (.t 44) (.t 46)))⟩, ⟨(some 48), (some (40, false)), (.q (.bin .neq 4 (.t 43) (.t 47)))⟩, ⟨(some 49), none, (.q (.pick (.t 40) (.k (.bool true)) (.t 48)))⟩, ⟨(some 50), none, (.q (.mov (.t 49)))⟩, ⟨(some 51), (some (50, false)), (.q (.mov (.t 5)))⟩, ⟨(some 52), (some (50, false)), (.q (.fld 0 0 (.t 2)))⟩, ⟨(some 53), (some (50, false)), (.rd (.ld false 1 (.t 52)))⟩, ⟨(some 54), (some (50, false)), (.q (.bin .lss 3 (.t 51) (.t 53)))⟩, ⟨(some 55), (some (50, false)), (.q (.mov (.t 54)))⟩, ⟨(some 56), (some (55, true)), (.q (.fld 1 1 (.t 6)))⟩, ⟨(some 57), (some (55, true)), (.rd (.ld false 1 (.t 56)))⟩, ⟨(some 58), (some (55, true)), (.q (.mov (.t 5)))⟩, ⟨(some 59), (some (55, true)), (.q (.bin .neq 3 (.t 57) (.t 58)))⟩, ⟨(some 60), (some (50, false)), (.q (.pick (.t 55) (.t 59) (.k (.bool false))))⟩, ⟨(some 61), none, (.q (.pick (.t 50) (.k (.bool true)) (.t 60)))⟩]
def o80n7 : List RI := [⟨(some 4), none, (.q (.mov (.k (.bool false))))⟩]
noncomputable def b80n7 (K : KTC) (k : KS) (a2 a3 a6 : AV) (c : KN) (p : KV) : Kr :=
  c [(2, a2), (3, a3), (4, (.sc (.bool false))), (6, a6)] k
theorem e80n7 (K : KTC) (k : KS) (a2 a3 a6 : AV) (c : KN) (p : KV) : b80n7 K k a2 a3 a6 c p = wReg Tryz.prog K [2, 3, 4, 6] o80n7 [(2, a2), (3, a3), (6, a6)] k c p := by unfold b80n7; kernel_rfl
noncomputable def s80n7 (K : KTC) (e : Env) (k : KS) (c : KN) (p : KV) : Kr := gt e 2 fun a2 => gt e 3 fun a3 => gt e 6 fun a6 => b80n7 K k a2 a3 a6 c p
theorem p80n7 (K : KTC) (K' : KT) (hK : CSound K K') : FitsC Tryz.prog K' (.reg (s80n7 K)) (.reg o80n7 [2, 3, 4, 6]) := fun e k c p y h => by
  obtain ⟨a2, h2, h⟩ := gt_some h
  obtain ⟨a3, h3, h⟩ := gt_some h
  obtain ⟨a6, h6, h⟩ := gt_some h
  exact wreg_fit hK (by decide +kernel) (keep_cons h2 (keep_cons h3 (keep_cons h6 (keep_nil)))) (e80n7 K k a2 a3 a6 c p) h
def o80n8 : List RI := [⟨(some 19), none, (.q (.mov (.t 5)))⟩, ⟨(some 20), none, (.q (.bin .add 3 (.t 19) (.k (.int .i64 1))))⟩, ⟨(some 5), none, (.q (.mov (.t 20)))⟩]
noncomputable def b80n8 (K : KTC) (k : KS) (a5 a2 a3 a6 : AV) (c : KN) (p : KV) : Kr :=
  xAdd 3 a5 (.sc (.int .i64 1)) fun v0 =>
  c [(2, a2), (3, a3), (5, v0), (6, a6)] k
theorem e80n8 (K : KTC) (k : KS) (a5 a2 a3 a6 : AV) (c : KN) (p : KV) : b80n8 K k a5 a2 a3 a6 c p = wReg Tryz.prog K [2, 3, 5, 6] o80n8 [(5, a5), (2, a2), (3, a3), (6, a6)] k c p := by unfold b80n8; simp only [xAdd_eq]; kernel_rfl
noncomputable def s80n8 (K : KTC) (e : Env) (k : KS) (c : KN) (p : KV) : Kr := gt e 5 fun a5 => gt e 2 fun a2 => gt e 3 fun a3 => gt e 6 fun a6 => b80n8 K k a5 a2 a3 a6 c p
theorem p80n8 (K : KTC) (K' : KT) (hK : CSound K K') : FitsC Tryz.prog K' (.reg (s80n8 K)) (.reg o80n8 [2, 3, 5, 6]) := fun e k c p y h => by
  obtain ⟨a5, h5, h⟩ := gt_some h
  obtain ⟨a2, h2, h⟩ := gt_some h
  obtain ⟨a3, h3, h⟩ := gt_some h
  obtain ⟨a6, h6, h⟩ := gt_some h
  exact wreg_fit hK (by decide +kernel) (keep_cons h5 (keep_cons h2 (keep_cons h3 (keep_cons h6 (keep_nil))))) (e80n8 K k a5 a2 a3 a6 c p) h
def o80n9 : List RI := [⟨(some 7), none, (.q (.mov (.k (.int .i64 0))))⟩]
noncomputable def b80n9 (K : KTC) (k : KS) (a2 a3 : AV) (x : Env) (c : KN) (p : KV) : Kr :=
  c (Env.keep ([(2, a2), (3, a3), (7, (.sc (.int .i64 0)))] ++ x) [2, 3, 6, 7]) k
theorem e80n9 (K : KTC) (k : KS) (a2 a3 : AV) (x : Env) (c : KN) (p : KV) : b80n9 K k a2 a3 x c p = wReg Tryz.prog K [2, 3, 6, 7] o80n9 ([(2, a2), (3, a3)] ++ x) k c p := by unfold b80n9; kernel_rfl
noncomputable def s80n9 (K : KTC) (e : Env) (k : KS) (c : KN) (p : KV) : Kr := gt e 2 fun a2 => gt e 3 fun a3 => b80n9 K k a2 a3 (e.keep [6]) c p
theorem p80n9 (K : KTC) (K' : KT) (hK : CSound K K') : FitsC Tryz.prog K' (.reg (s80n9 K)) (.reg o80n9 [2, 3, 6, 7]) := fun e k c p y h => by
  obtain ⟨a2, h2, h⟩ := gt_some h
  obtain ⟨a3, h3, h⟩ := gt_some h
  exact wreg_fit hK (by decide +kernel) (keep_cons h2 (keep_cons h3 (rfl))) (e80n9 K k a2 a3 (e.keep [6]) c p) h
def o80n10 : List RI := [⟨(some 62), none, (.q (.mov (.t 7)))⟩, ⟨(some 63), none, (.q (.bin .lss 3 (.t 62) (.k (.int .i64 8))))⟩]
noncomputable def b80n10 (K : KTC) (k : KS) (a7 a2 a3 : AV) (x : Env) (c : KN) (p : KV) : Kr :=
  xLss 3 a7 (.sc (.int .i64 8)) fun v0 =>
  c (Env.keep ([(2, a2), (3, a3), (7, a7), (63, v0)] ++ x) [2, 3, 6, 7, 63]) k
theorem e80n10 (K : KTC) (k : KS) (a7 a2 a3 : AV) (x : Env) (c : KN) (p : KV) : b80n10 K k a7 a2 a3 x c p = wReg Tryz.prog K [2, 3, 6, 7, 63] o80n10 ([(7, a7), (2, a2), (3, a3)] ++ x) k c p := by unfold b80n10; simp only [xLss_eq]; kernel_rfl
noncomputable def s80n10 (K : KTC) (e : Env) (k : KS) (c : KN) (p : KV) : Kr := gt e 7 fun a7 => gt e 2 fun a2 => gt e 3 fun a3 => b80n10 K k a7 a2 a3 (e.keep [6]) c p
theorem p80n10 (K : KTC) (K' : KT) (hK : CSound K K') : FitsC Tryz.prog K' (.reg (s80n10 K)) (.reg o80n10 [2, 3, 6, 7, 63]) := fun e k c p y h => by
  obtain ⟨a7, h7, h⟩ := gt_some h
  obtain ⟨a2, h2, h⟩ := gt_some h
  obtain ⟨a3, h3, h⟩ := gt_some h
  exact wreg_fit hK (by decide +kernel) (keep_cons h7 (keep_cons h2 (keep_cons h3 (rfl)))) (e80n10 K k a7 a2 a3 (e.keep [6]) c p) h
def o80n11 : List RI := [⟨(some 66), none, (.q (.mov (.t 7)))⟩, ⟨(some 67), none, (.q (.fld 3 194 (.t 3)))⟩, ⟨(some 68), none, (.q (.ixa 8 1 (.t 67) (.t 66)))⟩, ⟨(some 69), none, (.rd (.ld false 1 (.t 68)))⟩, ⟨(some 70), none, (.ac (.callf 139 [(.t 69), (.k (.int .i64 0)), (.k (.int .i64 2147483647))]))⟩, ⟨(some 71), none, (.q (.un .not (.t 70)))⟩, ⟨(some 72), none, (.q (.mov (.t 71)))⟩, ⟨(some 73), (some (72, false)), (.q (.mov (.t 7)))⟩, ⟨(some 74), (some (72, false)), (.q (.fld 0 0 (.t 2)))⟩, ⟨(some 75), (some (72, false)), (.rd (.ld false 1 (.t 74)))⟩, ⟨(some 76), (some (72, false)), (.q (.bin .geq 3 (.t 73) (.t 75)))⟩, ⟨(some 77), (some (72, false)), (.q (.mov (.t 76)))⟩, ⟨(some 78), (some (77, true)), (.q (.mov (.t 7)))⟩, ⟨(some 79), (some (77, true)), (.q (.fld 3 194 (.t 3)))⟩, ⟨(some 80), (some (77, true)), (.q (.ixa 8 1 (.t 79) (.t 78)))⟩, ⟨(some 81), (some (77, true)), (.rd (.ld false 1 (.t 80)))⟩, ⟨(some 82), (some (77, true)), (.q (.bin .neq 3 (.t 81) (.k (.int .i64 0))))⟩, ⟨(some 83), (some (72, false)), (.q (.pick (.t 77) (.t 82) (.k (.bool false))))⟩, ⟨(some 84), none, (.q (.pick (.t 72) (.k (.bool true)) (.t 83)))⟩]
def o80n12 : List RI := [⟨(some 4), none, (.q (.mov (.k (.bool false))))⟩]
noncomputable def b80n12 (K : KTC) (k : KS) (a2 a3 : AV) (x : Env) (c : KN) (p : KV) : Kr :=
  c (Env.keep ([(2, a2), (3, a3), (4, (.sc (.bool false)))] ++ x) [2, 3, 4, 6]) k
theorem e80n12 (K : KTC) (k : KS) (a2 a3 : AV) (x : Env) (c : KN) (p : KV) : b80n12 K k a2 a3 x c p = wReg Tryz.prog K [2, 3, 4, 6] o80n12 ([(2, a2), (3, a3)] ++ x) k c p := by unfold b80n12; kernel_rfl
noncomputable def s80n12 (K : KTC) (e : Env) (k : KS) (c : KN) (p : KV) : Kr := gt e 2 fun a2 => gt e 3 fun a3 => b80n12 K k a2 a3 (e.keep [6]) c p
theorem p80n12 (K : KTC) (K' : KT) (hK : CSound K K') : FitsC Tryz.prog K' (.reg (s80n12 K)) (.reg o80n12 [2, 3, 4, 6]) := fun e k c p y h => by
  obtain ⟨a2, h2, h⟩ := gt_some h
  obtain ⟨a3, h3, h⟩ := gt_some h
  exact wreg_fit hK (by decide +kernel) (keep_cons h2 (keep_cons h3 (rfl))) (e80n12 K k a2 a3 (e.keep [6]) c p) h
def o80n13 : List RI := [⟨(some 64), none, (.q (.mov (.t 7)))⟩, ⟨(some 65), none, (.q (.bin .add 3 (.t 64) (.k (.int .i64 1))))⟩, ⟨(some 7), none, (.q (.mov (.t 65)))⟩]
noncomputable def b80n13 (K : KTC) (k : KS) (a7 a2 a3 : AV) (x : Env) (c : KN) (p : KV) : Kr :=
  xAdd 3 a7 (.sc (.int .i64 1)) fun v0 =>
  c (Env.keep ([(2, a2), (3, a3), (7, v0)] ++ x) [2, 3, 6, 7]) k
theorem e80n13 (K : KTC) (k : KS) (a7 a2 a3 : AV) (x : Env) (c : KN) (p : KV) : b80n13 K k a7 a2 a3 x c p = wReg Tryz.prog K [2, 3, 6, 7] o80n13 ([(7, a7), (2, a2), (3, a3)] ++ x) k c p := by unfold b80n13; simp only [xAdd_eq]; kernel_rfl
noncomputable def s80n13 (K : KTC) (e : Env) (k : KS) (c : KN) (p : KV) : Kr := gt e 7 fun a7 => gt e 2 fun a2 => gt e 3 fun a3 => b80n13 K k a7 a2 a3 (e.keep [6]) c p
theorem p80n13 (K : KTC) (K' : KT) (hK : CSound K K') : FitsC Tryz.prog K' (.reg (s80n13 K)) (.reg o80n13 [2, 3, 6, 7]) := fun e k c p y h => by
  obtain ⟨a7, h7, h⟩ := gt_some h
  obtain ⟨a2, h2, h⟩ := gt_some h
  obtain ⟨a3, h3, h⟩ := gt_some h
  exact wreg_fit hK (by decide +kernel) (keep_cons h7 (keep_cons h2 (keep_cons h3 (rfl)))) (e80n13 K k a7 a2 a3 (e.keep [6]) c p) h
def o80n14 : List RI := [⟨(some 4), none, (.q (.mov (.k (.bool true))))⟩]
noncomputable def b80n14 (K : KTC) (k : KS) (a2 a3 : AV) (x : Env) (c : KN) (p : KV) : Kr :=
  c (Env.keep ([(2, a2), (3, a3), (4, (.sc (.bool true)))] ++ x) [2, 3, 4, 6]) k
theorem e80n14 (K : KTC) (k : KS) (a2 a3 : AV) (x : Env) (c : KN) (p : KV) : b80n14 K k a2 a3 x c p = wReg Tryz.prog K [2, 3, 4, 6] o80n14 ([(2, a2), (3, a3)] ++ x) k c p := by unfold b80n14; kernel_rfl
noncomputable def s80n14 (K : KTC) (e : Env) (k : KS) (c : KN) (p : KV) : Kr := gt e 2 fun a2 => gt e 3 fun a3 => b80n14 K k a2 a3 (e.keep [6]) c p
theorem p80n14 (K : KTC) (K' : KT) (hK : CSound K K') : FitsC Tryz.prog K' (.reg (s80n14 K)) (.reg o80n14 [2, 3, 4, 6]) := fun e k c p y h => by
  obtain ⟨a2, h2, h⟩ := gt_some h
  obtain ⟨a3, h3, h⟩ := gt_some h
  exact wreg_fit hK (by decide +kernel) (keep_cons h2 (keep_cons h3 (rfl))) (e80n14 K k a2 a3 (e.keep [6]) c p) h
def r80 : RFn := ⟨2, .seq (.reg o80n0 [2, 3, 6]) (.seq (.seq (.reg o80n1 [2, 3, 6, 16]) (.cond (.t 16) (.seq (.reg o80n2 [2, 3, 4, 6]) (.ret)) (.skip))) (.seq (.seq (.reg o80n3 [2, 3, 5]) (.block 0 (.loop [2, 3, 5] (.free [6] (.seq (.seq (.reg o80n4 [2, 3, 5, 6, 18]) (.cond (.t 18) (.skip) (.exit 0))) (.seq (.block 1 (.seq (.reg o80n5 [2, 3, 5, 6]) (.seq (.reg o80n6 [2, 3, 5, 6, 61]) (.cond (.t 61) (.seq (.reg o80n7 [2, 3, 4, 6]) (.ret)) (.skip))))) (.reg o80n8 [2, 3, 5, 6]))))))) (.seq (.seq (.reg o80n9 [2, 3, 6, 7]) (.block 2 (.loop [2, 3, 6, 7] (.seq (.seq (.reg o80n10 [2, 3, 6, 7, 63]) (.cond (.t 63) (.skip) (.exit 2))) (.seq (.block 3 (.seq (.reg o80n11 [2, 3, 6, 7, 84]) (.cond (.t 84) (.seq (.reg o80n12 [2, 3, 4, 6]) (.ret)) (.skip)))) (.reg o80n13 [2, 3, 6, 7])))))) (.seq (.reg o80n14 [2, 3, 4, 6]) (.ret))))), [.tmp 4], [2, 3, 6]⟩
noncomputable def q80 (K : KTC) : FK := .seq (.reg (s80n0 K)) (.seq (.seq (.reg fun e k c p => wReg Tryz.prog K [2, 3, 6, 16] o80n1 e k c p) (.cond (.t 16) (.seq (.reg (s80n2 K)) (.ret)) (.skip))) (.seq (.seq (.reg (s80n3 K)) (.block 0 (.loop [2, 3, 5] (.free [6] (.seq (.seq (.reg (s80n4 K)) (.cond (.t 18) (.skip) (.exit 0))) (.seq (.block 1 (.seq (.reg (s80n5 K)) (.seq (.reg fun e k c p => wReg Tryz.prog K [2, 3, 5, 6, 61] o80n6 e k c p) (.cond (.t 61) (.seq (.reg (s80n7 K)) (.ret)) (.skip))))) (.reg (s80n8 K)))))))) (.seq (.seq (.reg (s80n9 K)) (.block 2 (.loop [2, 3, 6, 7] (.seq (.seq (.reg (s80n10 K)) (.cond (.t 63) (.skip) (.exit 2))) (.seq (.block 3 (.seq (.reg fun e k c p => wReg Tryz.prog K [2, 3, 6, 7, 84] o80n11 e k c p) (.cond (.t 84) (.seq (.reg (s80n12 K)) (.ret)) (.skip)))) (.reg (s80n13 K))))))) (.seq (.reg (s80n14 K)) (.ret)))))
theorem ok80 (K : KTC) (K' : KT) (hK : CSound K K') : FitsC Tryz.prog K' (q80 K) r80.code := hs (p80n0 K _ hK) (hs (hs (wslow_reg hK) (hc (hs (p80n2 K _ hK) (hr)) (hk))) (hs (hs (p80n3 K _ hK) (hb (hl (by decide +kernel) (hf (hs (hs (p80n4 K _ hK) (hc (hk) (hx))) (hs (hb (hs (p80n5 K _ hK) (hs (wslow_reg hK) (hc (hs (p80n7 K _ hK) (hr)) (hk))))) (p80n8 K _ hK))))))) (hs (hs (p80n9 K _ hK) (hb (hl (by decide +kernel) (hs (hs (p80n10 K _ hK) (hc (hk) (hx))) (hs (hb (hs (wslow_reg hK) (hc (hs (p80n12 K _ hK) (hr)) (hk)))) (p80n13 K _ hK)))))) (hs (p80n14 K _ hK) (hr)))))
noncomputable def g80 : HFn Tryz.prog := ⟨r80, q80, ok80⟩
theorem c80 : chkF Tryz.prog Tryz.f80 r80 = true := by decide +kernel

/-! (*doubletake/doubletakeref1.Bits).Signed -/
def o81n0 : List RI := [⟨(some 6), none, (.q (.mov (.t 0)))⟩, ⟨(some 7), none, (.q (.mov (.t 1)))⟩, ⟨(some 8), none, (.q (.conv 3 39 (.t 7)))⟩, ⟨(some 9), none, (.q (.mov (.t 2)))⟩, ⟨(some 10), none, (.ac (.callf 82 [(.t 6), (.t 8), (.t 9)]))⟩]
noncomputable def b81n0 (K : KTC) (k : KS) (a0 a1 a2 : AV) (c : KN) (p : KV) : Kr :=
  xConv 3 39 a1 fun v0 =>
  K 82 [a0, v0, a2] k (fun v1 k1 =>
  c [] k1) (p)
theorem e81n0 (K : KTC) (k : KS) (a0 a1 a2 : AV) (c : KN) (p : KV) : b81n0 K k a0 a1 a2 c p = wReg Tryz.prog K [] o81n0 [(0, a0), (1, a1), (2, a2)] k c p := by unfold b81n0; simp only [xConv_eq]; kernel_rfl
noncomputable def s81n0 (K : KTC) (e : Env) (k : KS) (c : KN) (p : KV) : Kr := gt e 0 fun a0 => gt e 1 fun a1 => gt e 2 fun a2 => b81n0 K k a0 a1 a2 c p
theorem p81n0 (K : KTC) (K' : KT) (hK : CSound K K') : FitsC Tryz.prog K' (.reg (s81n0 K)) (.reg o81n0 []) := fun e k c p y h => by
  obtain ⟨a0, h0, h⟩ := gt_some h
  obtain ⟨a1, h1, h⟩ := gt_some h
  obtain ⟨a2, h2, h⟩ := gt_some h
  exact wreg_fit hK (by decide +kernel) (keep_cons h0 (keep_cons h1 (keep_cons h2 (keep_nil)))) (e81n0 K k a0 a1 a2 c p) h
def r81 : RFn := ⟨3, .reg o81n0 [], [], []⟩
noncomputable def q81 (K : KTC) : FK := .reg (s81n0 K)
theorem ok81 (K : KTC) (K' : KT) (hK : CSound K K') : FitsC Tryz.prog K' (q81 K) r81.code := p81n0 K _ hK
noncomputable def g81 : HFn Tryz.prog := ⟨r81, q81, ok81⟩
theorem c81 : chkF Tryz.prog Tryz.f81 r81 = true := by decide +kernel

/-! (*doubletake/doubletakeref1.Bits).Put -/
def o82n0 : List RI := [⟨(some 7), none, (.q (.mov (.t 2)))⟩, ⟨(some 8), none, (.q (.mm false [(.k (.int .i64 64)), (.t 7)]))⟩, ⟨(some 9), none, (.q (.mm true [(.k (.int .i64 0)), (.t 8)]))⟩, ⟨(some 10), none, (.q (.bin .sub 3 (.t 9) (.k (.int .i64 1))))⟩, ⟨(some 6), none, (.q (.mov (.t 10)))⟩]
noncomputable def b82n0 (K : KTC) (k : KS) (a2 a0 a1 : AV) (c : KN) (p : KV) : Kr :=
  xMM false (.sc (.int .i64 64)) a2 fun v0 =>
  xMM true (.sc (.int .i64 0)) v0 fun v1 =>
  xSub 3 v1 (.sc (.int .i64 1)) fun v2 =>
  c [(0, a0), (1, a1), (6, v2)] k
theorem e82n0 (K : KTC) (k : KS) (a2 a0 a1 : AV) (c : KN) (p : KV) : b82n0 K k a2 a0 a1 c p = wReg Tryz.prog K [0, 1, 6] o82n0 [(2, a2), (0, a0), (1, a1)] k c p := by unfold b82n0; simp only [xSub_eq, xMM_eq]; kernel_rfl
noncomputable def s82n0 (K : KTC) (e : Env) (k : KS) (c : KN) (p : KV) : Kr := gt e 2 fun a2 => gt e 0 fun a0 => gt e 1 fun a1 => b82n0 K k a2 a0 a1 c p
theorem p82n0 (K : KTC) (K' : KT) (hK : CSound K K') : FitsC Tryz.prog K' (.reg (s82n0 K)) (.reg o82n0 [0, 1, 6]) := fun e k c p y h => by
  obtain ⟨a2, h2, h⟩ := gt_some h
  obtain ⟨a0, h0, h⟩ := gt_some h
  obtain ⟨a1, h1, h⟩ := gt_some h
  exact wreg_fit hK (by decide +kernel) (keep_cons h2 (keep_cons h0 (keep_cons h1 (keep_nil)))) (e82n0 K k a2 a0 a1 c p) h
def o82n1 : List RI := [⟨(some 11), none, (.q (.mov (.t 6)))⟩, ⟨(some 12), none, (.q (.bin .geq 3 (.t 11) (.k (.int .i64 0))))⟩]
noncomputable def b82n1 (K : KTC) (k : KS) (a6 a0 a1 : AV) (c : KN) (p : KV) : Kr :=
  xGeq 3 a6 (.sc (.int .i64 0)) fun v0 =>
  c [(0, a0), (1, a1), (6, a6), (12, v0)] k
theorem e82n1 (K : KTC) (k : KS) (a6 a0 a1 : AV) (c : KN) (p : KV) : b82n1 K k a6 a0 a1 c p = wReg Tryz.prog K [0, 1, 6, 12] o82n1 [(6, a6), (0, a0), (1, a1)] k c p := by unfold b82n1; simp only [xGeq_eq]; kernel_rfl
noncomputable def s82n1 (K : KTC) (e : Env) (k : KS) (c : KN) (p : KV) : Kr := gt e 6 fun a6 => gt e 0 fun a0 => gt e 1 fun a1 => b82n1 K k a6 a0 a1 c p
theorem p82n1 (K : KTC) (K' : KT) (hK : CSound K K') : FitsC Tryz.prog K' (.reg (s82n1 K)) (.reg o82n1 [0, 1, 6, 12]) := fun e k c p y h => by
  obtain ⟨a6, h6, h⟩ := gt_some h
  obtain ⟨a0, h0, h⟩ := gt_some h
  obtain ⟨a1, h1, h⟩ := gt_some h
  exact wreg_fit hK (by decide +kernel) (keep_cons h6 (keep_cons h0 (keep_cons h1 (keep_nil)))) (e82n1 K k a6 a0 a1 c p) h
def o82n2 : List RI := [⟨(some 15), none, (.q (.mov (.t 0)))⟩, ⟨(some 16), none, (.q (.mov (.t 0)))⟩, ⟨(some 17), none, (.q (.nchk (.t 16)))⟩, ⟨(some 18), none, (.q (.fld 0 0 (.t 17)))⟩, ⟨(some 19), none, (.rd (.ld false 1 (.t 18)))⟩, ⟨(some 20), none, (.q (.mov (.t 1)))⟩, ⟨(some 21), none, (.q (.mov (.t 6)))⟩, ⟨(some 22), none, (.q (.conv 3 165 (.t 21)))⟩, ⟨(some 23), none, (.q (.bin .shr 39 (.t 20) (.t 22)))⟩, ⟨(some 24), none, (.q (.bin .and 39 (.t 23) (.k (.int .u64 1))))⟩, ⟨(some 25), none, (.q (.bin .eql 39 (.t 24) (.k (.int .u64 1))))⟩, ⟨(some 26), none, (.al (.bldS 1 1 (.sc (.bool false)) [(0, (.t 25))]))⟩, ⟨(some 27), none, (.ac (.app true 1 1 (.t 19) (.t 26)))⟩, ⟨(some 28), none, (.q (.nchk (.t 15)))⟩, ⟨(some 29), none, (.q (.fld 0 0 (.t 28)))⟩, ⟨none, none, (.ac (.st 1 (.t 29) (.t 27)))⟩]
noncomputable def b82n2 (K : KTC) (k : KS) (a0 a1 a6 : AV) (c : KN) (p : KV) : Kr :=
  xLdf k.t 0 0 false 1 a0 fun v0 =>
  xConv 3 165 a6 fun v1 =>
  xShr 39 a1 v1 fun v2 =>
  xAnd 39 v2 (.sc (.int .u64 1)) fun v3 =>
  xEql 39 v3 (.sc (.int .u64 1)) fun v4 =>
  xBld1 (.sc (.bool false)) v4 k fun v5 k5 =>
  xApp k5 1 1 v0 v5 (fun v6 k6 =>
  xStf k6 0 0 1 a0 v6 (fun v7 k7 =>
  c [(0, a0), (1, a1), (6, a6)] k7) (p)) (p)
theorem e82n2 (K : KTC) (k : KS) (a0 a1 a6 : AV) (c : KN) (p : KV) : b82n2 K k a0 a1 a6 c p = wReg Tryz.prog K [0, 1, 6] o82n2 [(0, a0), (1, a1), (6, a6)] k c p := by unfold b82n2; simp only [xStf_eq, xApp_eq, xBld1_eq, xEql_eq, xAnd_eq, xShr_eq, xConv_eq, xLdf_eq]; kernel_rfl
noncomputable def s82n2 (K : KTC) (e : Env) (k : KS) (c : KN) (p : KV) : Kr := gt e 0 fun a0 => gt e 1 fun a1 => gt e 6 fun a6 => b82n2 K k a0 a1 a6 c p
theorem p82n2 (K : KTC) (K' : KT) (hK : CSound K K') : FitsC Tryz.prog K' (.reg (s82n2 K)) (.reg o82n2 [0, 1, 6]) := fun e k c p y h => by
  obtain ⟨a0, h0, h⟩ := gt_some h
  obtain ⟨a1, h1, h⟩ := gt_some h
  obtain ⟨a6, h6, h⟩ := gt_some h
  exact wreg_fit hK (by decide +kernel) (keep_cons h0 (keep_cons h1 (keep_cons h6 (keep_nil)))) (e82n2 K k a0 a1 a6 c p) h
def o82n3 : List RI := [⟨(some 13), none, (.q (.mov (.t 6)))⟩, ⟨(some 14), none, (.q (.bin .sub 3 (.t 13) (.k (.int .i64 1))))⟩, ⟨(some 6), none, (.q (.mov (.t 14)))⟩]
noncomputable def b82n3 (K : KTC) (k : KS) (a6 a0 a1 : AV) (c : KN) (p : KV) : Kr :=
  xSub 3 a6 (.sc (.int .i64 1)) fun v0 =>
  c [(0, a0), (1, a1), (6, v0)] k
theorem e82n3 (K : KTC) (k : KS) (a6 a0 a1 : AV) (c : KN) (p : KV) : b82n3 K k a6 a0 a1 c p = wReg Tryz.prog K [0, 1, 6] o82n3 [(6, a6), (0, a0), (1, a1)] k c p := by unfold b82n3; simp only [xSub_eq]; kernel_rfl
noncomputable def s82n3 (K : KTC) (e : Env) (k : KS) (c : KN) (p : KV) : Kr := gt e 6 fun a6 => gt e 0 fun a0 => gt e 1 fun a1 => b82n3 K k a6 a0 a1 c p
theorem p82n3 (K : KTC) (K' : KT) (hK : CSound K K') : FitsC Tryz.prog K' (.reg (s82n3 K)) (.reg o82n3 [0, 1, 6]) := fun e k c p y h => by
  obtain ⟨a6, h6, h⟩ := gt_some h
  obtain ⟨a0, h0, h⟩ := gt_some h
  obtain ⟨a1, h1, h⟩ := gt_some h
  exact wreg_fit hK (by decide +kernel) (keep_cons h6 (keep_cons h0 (keep_cons h1 (keep_nil)))) (e82n3 K k a6 a0 a1 c p) h
def r82 : RFn := ⟨3, .seq (.reg o82n0 [0, 1, 6]) (.block 0 (.loop [0, 1, 6] (.seq (.seq (.reg o82n1 [0, 1, 6, 12]) (.cond (.t 12) (.skip) (.exit 0))) (.seq (.block 1 (.reg o82n2 [0, 1, 6])) (.reg o82n3 [0, 1, 6]))))), [], []⟩
noncomputable def q82 (K : KTC) : FK := .seq (.reg (s82n0 K)) (.block 0 (.loop [0, 1, 6] (.seq (.seq (.reg (s82n1 K)) (.cond (.t 12) (.skip) (.exit 0))) (.seq (.block 1 (.reg (s82n2 K))) (.reg (s82n3 K))))))
theorem ok82 (K : KTC) (K' : KT) (hK : CSound K K') : FitsC Tryz.prog K' (q82 K) r82.code := hs (p82n0 K _ hK) (hb (hl (by decide +kernel) (hs (hs (p82n1 K _ hK) (hc (hk) (hx))) (hs (hb (p82n2 K _ hK)) (p82n3 K _ hK)))))
noncomputable def g82 : HFn Tryz.prog := ⟨r82, q82, ok82⟩
theorem c82 : chkF Tryz.prog Tryz.f82 r82 = true := by decide +kernel

/-! (*doubletake/doubletakeref1.Bits).Bytes -/
def o83n0 : List RI := [⟨(some 2), none, (.q (.mov .nils))⟩]
noncomputable def b83n0 (K : KTC) (k : KS) (a0 : AV) (c : KN) (p : KV) : Kr :=
  c [(0, a0)] k
theorem e83n0 (K : KTC) (k : KS) (a0 : AV) (c : KN) (p : KV) : b83n0 K k a0 c p = wReg Tryz.prog K [0] o83n0 [(0, a0)] k c p := by unfold b83n0; kernel_rfl
noncomputable def s83n0 (K : KTC) (e : Env) (k : KS) (c : KN) (p : KV) : Kr := gt e 0 fun a0 => b83n0 K k a0 c p
theorem p83n0 (K : KTC) (K' : KT) (hK : CSound K K') : FitsC Tryz.prog K' (.reg (s83n0 K)) (.reg o83n0 [0]) := fun e k c p y h => by
  obtain ⟨a0, h0, h⟩ := gt_some h
  exact wreg_fit hK (by decide +kernel) (keep_cons h0 (keep_nil)) (e83n0 K k a0 c p) h
def o83n1 : List RI := [⟨(some 5), none, (.q (.mov (.t 0)))⟩, ⟨(some 6), none, (.q (.nchk (.t 5)))⟩, ⟨(some 7), none, (.q (.fld 0 0 (.t 6)))⟩, ⟨(some 8), none, (.rd (.ld false 1 (.t 7)))⟩, ⟨(some 9), none, (.q (.len false (.t 8)))⟩, ⟨(some 10), none, (.q (.bin .add 3 (.t 9) (.k (.int .i64 7))))⟩, ⟨(some 11), none, (.q (.bin .quo 3 (.t 10) (.k (.int .i64 8))))⟩, ⟨(some 12), none, (.al (.mkS 1 1 (.sc (.int .u8 0)) (.t 11) (.t 11)))⟩, ⟨(some 3), none, (.q (.mov (.t 12)))⟩]
noncomputable def b83n1 (K : KTC) (k : KS) (a0 : AV) (c : KN) (p : KV) : Kr :=
  xLdf k.t 0 0 false 1 a0 fun v0 =>
  xLen v0 fun v1 =>
  xAdd 3 v1 (.sc (.int .i64 7)) fun v2 =>
  xQuo 3 v2 (.sc (.int .i64 8)) fun v3 =>
  pAl (evAl [(11, v3)] k.nx (.mkS 1 1 (.sc (.int .u8 0)) (.t 11) (.t 11))) k fun v4 k4 =>
  c [(0, a0), (3, v4)] k4
theorem e83n1 (K : KTC) (k : KS) (a0 : AV) (c : KN) (p : KV) : b83n1 K k a0 c p = wReg Tryz.prog K [0, 3] o83n1 [(0, a0)] k c p := by unfold b83n1; simp only [xQuo_eq, xAdd_eq, xLen_eq, xLdf_eq]; kernel_rfl
noncomputable def s83n1 (K : KTC) (e : Env) (k : KS) (c : KN) (p : KV) : Kr := gt e 0 fun a0 => b83n1 K k a0 c p
theorem p83n1 (K : KTC) (K' : KT) (hK : CSound K K') : FitsC Tryz.prog K' (.reg (s83n1 K)) (.reg o83n1 [0, 3]) := fun e k c p y h => by
  obtain ⟨a0, h0, h⟩ := gt_some h
  exact wreg_fit hK (by decide +kernel) (keep_cons h0 (keep_nil)) (e83n1 K k a0 c p) h
def o83n2 : List RI := [⟨(some 4), none, (.q (.mov (.k (.int .i64 0))))⟩]
noncomputable def b83n2 (K : KTC) (k : KS) (a0 a3 : AV) (c : KN) (p : KV) : Kr :=
  c [(0, a0), (3, a3), (4, (.sc (.int .i64 0)))] k
theorem e83n2 (K : KTC) (k : KS) (a0 a3 : AV) (c : KN) (p : KV) : b83n2 K k a0 a3 c p = wReg Tryz.prog K [0, 3, 4] o83n2 [(0, a0), (3, a3)] k c p := by unfold b83n2; kernel_rfl
noncomputable def s83n2 (K : KTC) (e : Env) (k : KS) (c : KN) (p : KV) : Kr := gt e 0 fun a0 => gt e 3 fun a3 => b83n2 K k a0 a3 c p
theorem p83n2 (K : KTC) (K' : KT) (hK : CSound K K') : FitsC Tryz.prog K' (.reg (s83n2 K)) (.reg o83n2 [0, 3, 4]) := fun e k c p y h => by
  obtain ⟨a0, h0, h⟩ := gt_some h
  obtain ⟨a3, h3, h⟩ := gt_some h
  exact wreg_fit hK (by decide +kernel) (keep_cons h0 (keep_cons h3 (keep_nil))) (e83n2 K k a0 a3 c p) h
def o83n3 : List RI := [⟨(some 13), none, (.q (.mov (.t 4)))⟩, ⟨(some 14), none, (.q (.mov (.t 0)))⟩, ⟨(some 15), none, (.q (.nchk (.t 14)))⟩, ⟨(some 16), none, (.q (.fld 0 0 (.t 15)))⟩, ⟨(some 17), none, (.rd (.ld false 1 (.t 16)))⟩, ⟨(some 18), none, (.q (.len false (.t 17)))⟩, ⟨(some 19), none, (.q (.bin .lss 3 (.t 13) (.t 18)))⟩]
noncomputable def b83n3 (K : KTC) (k : KS) (a4 a0 a3 : AV) (c : KN) (p : KV) : Kr :=
  xLdf k.t 0 0 false 1 a0 fun v0 =>
  xLen v0 fun v1 =>
  xLss 3 a4 v1 fun v2 =>
  c [(0, a0), (3, a3), (4, a4), (19, v2)] k
theorem e83n3 (K : KTC) (k : KS) (a4 a0 a3 : AV) (c : KN) (p : KV) : b83n3 K k a4 a0 a3 c p = wReg Tryz.prog K [0, 3, 4, 19] o83n3 [(4, a4), (0, a0), (3, a3)] k c p := by unfold b83n3; simp only [xLss_eq, xLen_eq, xLdf_eq]; kernel_rfl
noncomputable def s83n3 (K : KTC) (e : Env) (k : KS) (c : KN) (p : KV) : Kr := gt e 4 fun a4 => gt e 0 fun a0 => gt e 3 fun a3 => b83n3 K k a4 a0 a3 c p
theorem p83n3 (K : KTC) (K' : KT) (hK : CSound K K') : FitsC Tryz.prog K' (.reg (s83n3 K)) (.reg o83n3 [0, 3, 4, 19]) := fun e k c p y h => by
  obtain ⟨a4, h4, h⟩ := gt_some h
  obtain ⟨a0, h0, h⟩ := gt_some h
  obtain ⟨a3, h3, h⟩ := gt_some h
  exact wreg_fit hK (by decide +kernel) (keep_cons h4 (keep_cons h0 (keep_cons h3 (keep_nil)))) (e83n3 K k a4 a0 a3 c p) h
def o83n4 : List RI := [⟨(some 22), none, (.q (.mov (.t 0)))⟩, ⟨(some 23), none, (.q (.nchk (.t 22)))⟩, ⟨(some 24), none, (.q (.fld 0 0 (.t 23)))⟩, ⟨(some 25), none, (.rd (.ld false 1 (.t 24)))⟩, ⟨(some 26), none, (.q (.mov (.t 4)))⟩, ⟨(some 27), none, (.q (.ixs 1 (.t 25) (.t 26)))⟩, ⟨(some 28), none, (.rd (.ld false 1 (.t 27)))⟩]
noncomputable def b83n4 (K : KTC) (k : KS) (a0 a4 a3 : AV) (c : KN) (p : KV) : Kr :=
  xLdf k.t 0 0 false 1 a0 fun v0 =>
  xIxl k.t 1 false 1 v0 a4 fun v1 =>
  c [(0, a0), (3, a3), (4, a4), (28, v1)] k
theorem e83n4 (K : KTC) (k : KS) (a0 a4 a3 : AV) (c : KN) (p : KV) : b83n4 K k a0 a4 a3 c p = wReg Tryz.prog K [0, 3, 4, 28] o83n4 [(0, a0), (4, a4), (3, a3)] k c p := by unfold b83n4; simp only [xIxl_eq, xLdf_eq]; kernel_rfl
noncomputable def s83n4 (K : KTC) (e : Env) (k : KS) (c : KN) (p : KV) : Kr := gt e 0 fun a0 => gt e 4 fun a4 => gt e 3 fun a3 => b83n4 K k a0 a4 a3 c p
theorem p83n4 (K : KTC) (K' : KT) (hK : CSound K K') : FitsC Tryz.prog K' (.reg (s83n4 K)) (.reg o83n4 [0, 3, 4, 28]) := fun e k c p y h => by
  obtain ⟨a0, h0, h⟩ := gt_some h
  obtain ⟨a4, h4, h⟩ := gt_some h
  obtain ⟨a3, h3, h⟩ := gt_some h
  exact wreg_fit hK (by decide +kernel) (keep_cons h0 (keep_cons h4 (keep_cons h3 (keep_nil)))) (e83n4 K k a0 a4 a3 c p) h
def o83n5 : List RI := [⟨(some 29), none, (.q (.mov (.t 3)))⟩, ⟨(some 30), none, (.q (.mov (.t 4)))⟩, ⟨(some 31), none, (.q (.bin .quo 3 (.t 30) (.k (.int .i64 8))))⟩, ⟨(some 32), none, (.q (.mov (.t 3)))⟩, ⟨(some 33), none, (.q (.mov (.t 4)))⟩, ⟨(some 34), none, (.q (.bin .quo 3 (.t 33) (.k (.int .i64 8))))⟩, ⟨(some 35), none, (.q (.ixs 1 (.t 32) (.t 34)))⟩, ⟨(some 36), none, (.rd (.ld false 1 (.t 35)))⟩, ⟨(some 37), none, (.q (.mov (.t 4)))⟩, ⟨(some 38), none, (.q (.bin .rem 3 (.t 37) (.k (.int .i64 8))))⟩, ⟨(some 39), none, (.q (.bin .sub 3 (.k (.int .i64 7)) (.t 38)))⟩, ⟨(some 40), none, (.q (.conv 3 165 (.t 39)))⟩, ⟨(some 41), none, (.q (.bin .shl 5 (.k (.int .u8 1)) (.t 40)))⟩, ⟨(some 42), none, (.q (.bin .add 5 (.t 36) (.t 41)))⟩, ⟨(some 43), none, (.q (.ixs 1 (.t 29) (.t 31)))⟩, ⟨none, none, (.ac (.st 1 (.t 43) (.t 42)))⟩]
noncomputable def b83n5 (K : KTC) (k : KS) (a3 a4 a0 : AV) (c : KN) (p : KV) : Kr :=
  xQuo 3 a4 (.sc (.int .i64 8)) fun v0 =>
  xQuo 3 a4 (.sc (.int .i64 8)) fun v1 =>
  xIxl k.t 1 false 1 a3 v1 fun v2 =>
  xRem 3 a4 (.sc (.int .i64 8)) fun v3 =>
  xSub 3 (.sc (.int .i64 7)) v3 fun v4 =>
  xConv 3 165 v4 fun v5 =>
  xShl 5 (.sc (.int .u8 1)) v5 fun v6 =>
  xAdd 5 v2 v6 fun v7 =>
  xIxst k 1 1 a3 v0 v7 (fun v8 k8 =>
  c [(0, a0), (3, a3), (4, a4)] k8) (p)
theorem e83n5 (K : KTC) (k : KS) (a3 a4 a0 : AV) (c : KN) (p : KV) : b83n5 K k a3 a4 a0 c p = wReg Tryz.prog K [0, 3, 4] o83n5 [(3, a3), (4, a4), (0, a0)] k c p := by unfold b83n5; simp only [xIxst_eq, xAdd_eq, xShl_eq, xConv_eq, xSub_eq, xRem_eq, xIxl_eq, xQuo_eq]; kernel_rfl
noncomputable def s83n5 (K : KTC) (e : Env) (k : KS) (c : KN) (p : KV) : Kr := gt e 3 fun a3 => gt e 4 fun a4 => gt e 0 fun a0 => b83n5 K k a3 a4 a0 c p
theorem p83n5 (K : KTC) (K' : KT) (hK : CSound K K') : FitsC Tryz.prog K' (.reg (s83n5 K)) (.reg o83n5 [0, 3, 4]) := fun e k c p y h => by
  obtain ⟨a3, h3, h⟩ := gt_some h
  obtain ⟨a4, h4, h⟩ := gt_some h
  obtain ⟨a0, h0, h⟩ := gt_some h
  exact wreg_fit hK (by decide +kernel) (keep_cons h3 (keep_cons h4 (keep_cons h0 (keep_nil)))) (e83n5 K k a3 a4 a0 c p) h
def o83n6 : List RI := [⟨(some 20), none, (.q (.mov (.t 4)))⟩, ⟨(some 21), none, (.q (.bin .add 3 (.t 20) (.k (.int .i64 1))))⟩, ⟨(some 4), none, (.q (.mov (.t 21)))⟩]
noncomputable def b83n6 (K : KTC) (k : KS) (a4 a0 a3 : AV) (c : KN) (p : KV) : Kr :=
  xAdd 3 a4 (.sc (.int .i64 1)) fun v0 =>
  c [(0, a0), (3, a3), (4, v0)] k
theorem e83n6 (K : KTC) (k : KS) (a4 a0 a3 : AV) (c : KN) (p : KV) : b83n6 K k a4 a0 a3 c p = wReg Tryz.prog K [0, 3, 4] o83n6 [(4, a4), (0, a0), (3, a3)] k c p := by unfold b83n6; simp only [xAdd_eq]; kernel_rfl
noncomputable def s83n6 (K : KTC) (e : Env) (k : KS) (c : KN) (p : KV) : Kr := gt e 4 fun a4 => gt e 0 fun a0 => gt e 3 fun a3 => b83n6 K k a4 a0 a3 c p
theorem p83n6 (K : KTC) (K' : KT) (hK : CSound K K') : FitsC Tryz.prog K' (.reg (s83n6 K)) (.reg o83n6 [0, 3, 4]) := fun e k c p y h => by
  obtain ⟨a4, h4, h⟩ := gt_some h
  obtain ⟨a0, h0, h⟩ := gt_some h
  obtain ⟨a3, h3, h⟩ := gt_some h
  exact wreg_fit hK (by decide +kernel) (keep_cons h4 (keep_cons h0 (keep_cons h3 (keep_nil)))) (e83n6 K k a4 a0 a3 c p) h
def o83n7 : List RI := [⟨(some 44), none, (.q (.mov (.t 3)))⟩, ⟨(some 2), none, (.q (.mov (.t 44)))⟩]
noncomputable def b83n7 (K : KTC) (k : KS) (a3 : AV) (c : KN) (p : KV) : Kr :=
  c [(2, a3)] k
theorem e83n7 (K : KTC) (k : KS) (a3 : AV) (c : KN) (p : KV) : b83n7 K k a3 c p = wReg Tryz.prog K [2] o83n7 [(3, a3)] k c p := by unfold b83n7; kernel_rfl
noncomputable def s83n7 (K : KTC) (e : Env) (k : KS) (c : KN) (p : KV) : Kr := gt e 3 fun a3 => b83n7 K k a3 c p
theorem p83n7 (K : KTC) (K' : KT) (hK : CSound K K') : FitsC Tryz.prog K' (.reg (s83n7 K)) (.reg o83n7 [2]) := fun e k c p y h => by
  obtain ⟨a3, h3, h⟩ := gt_some h
  exact wreg_fit hK (by decide +kernel) (keep_cons h3 (keep_nil)) (e83n7 K k a3 c p) h
def r83 : RFn := ⟨1, .seq (.reg o83n0 [0]) (.seq (.reg o83n1 [0, 3]) (.seq (.seq (.reg o83n2 [0, 3, 4]) (.block 0 (.loop [0, 3, 4] (.seq (.seq (.reg o83n3 [0, 3, 4, 19]) (.cond (.t 19) (.skip) (.exit 0))) (.seq (.block 1 (.seq (.reg o83n4 [0, 3, 4, 28]) (.cond (.t 28) (.reg o83n5 [0, 3, 4]) (.skip)))) (.reg o83n6 [0, 3, 4])))))) (.seq (.reg o83n7 [2]) (.ret)))), [.tmp 2], []⟩
noncomputable def q83 (K : KTC) : FK := .seq (.reg (s83n0 K)) (.seq (.reg (s83n1 K)) (.seq (.seq (.reg (s83n2 K)) (.block 0 (.loop [0, 3, 4] (.seq (.seq (.reg (s83n3 K)) (.cond (.t 19) (.skip) (.exit 0))) (.seq (.block 1 (.seq (.reg (s83n4 K)) (.cond (.t 28) (.reg (s83n5 K)) (.skip)))) (.reg (s83n6 K))))))) (.seq (.reg (s83n7 K)) (.ret))))
theorem ok83 (K : KTC) (K' : KT) (hK : CSound K K') : FitsC Tryz.prog K' (q83 K) r83.code := hs (p83n0 K _ hK) (hs (p83n1 K _ hK) (hs (hs (p83n2 K _ hK) (hb (hl (by decide +kernel) (hs (hs (p83n3 K _ hK) (hc (hk) (hx))) (hs (hb (hs (p83n4 K _ hK) (hc (p83n5 K _ hK) (hk)))) (p83n6 K _ hK)))))) (hs (p83n7 K _ hK) (hr))))
noncomputable def g83 : HFn Tryz.prog := ⟨r83, q83, ok83⟩
theorem c83 : chkF Tryz.prog Tryz.f83 r83 = true := by decide +kernel

/-! doubletake/doubletakeref1.Sum -/
def o84n0 : List RI := [⟨(some 4), none, (.q (.mov (.k (.int .i64 0))))⟩]
noncomputable def b84n0 (K : KTC) (k : KS) (a0 a1 : AV) (c : KN) (p : KV) : Kr :=
  c [(0, a0), (1, a1)] k
theorem e84n0 (K : KTC) (k : KS) (a0 a1 : AV) (c : KN) (p : KV) : b84n0 K k a0 a1 c p = wReg Tryz.prog K [0, 1] o84n0 [(0, a0), (1, a1)] k c p := by unfold b84n0; kernel_rfl
noncomputable def s84n0 (K : KTC) (e : Env) (k : KS) (c : KN) (p : KV) : Kr := gt e 0 fun a0 => gt e 1 fun a1 => b84n0 K k a0 a1 c p
theorem p84n0 (K : KTC) (K' : KT) (hK : CSound K K') : FitsC Tryz.prog K' (.reg (s84n0 K)) (.reg o84n0 [0, 1]) := fun e k c p y h => by
  obtain ⟨a0, h0, h⟩ := gt_some h
  obtain ⟨a1, h1, h⟩ := gt_some h
  exact wreg_fit hK (by decide +kernel) (keep_cons h0 (keep_cons h1 (keep_nil))) (e84n0 K k a0 a1 c p) h
def o84n1 : List RI := [⟨(some 7), none, (.q (.mov (.t 0)))⟩, ⟨(some 8), none, (.q (.bin .rem 3 (.t 7) (.k (.int .i64 2147483647))))⟩, ⟨(some 5), none, (.q (.mov (.t 8)))⟩]
noncomputable def b84n1 (K : KTC) (k : KS) (a0 a1 : AV) (c : KN) (p : KV) : Kr :=
  xRem 3 a0 (.sc (.int .i64 2147483647)) fun v0 =>
  c [(1, a1), (5, v0)] k
theorem e84n1 (K : KTC) (k : KS) (a0 a1 : AV) (c : KN) (p : KV) : b84n1 K k a0 a1 c p = wReg Tryz.prog K [1, 5] o84n1 [(0, a0), (1, a1)] k c p := by unfold b84n1; simp only [xRem_eq]; kernel_rfl
noncomputable def s84n1 (K : KTC) (e : Env) (k : KS) (c : KN) (p : KV) : Kr := gt e 0 fun a0 => gt e 1 fun a1 => b84n1 K k a0 a1 c p
theorem p84n1 (K : KTC) (K' : KT) (hK : CSound K K') : FitsC Tryz.prog K' (.reg (s84n1 K)) (.reg o84n1 [1, 5]) := fun e k c p y h => by
  obtain ⟨a0, h0, h⟩ := gt_some h
  obtain ⟨a1, h1, h⟩ := gt_some h
  exact wreg_fit hK (by decide +kernel) (keep_cons h0 (keep_cons h1 (keep_nil))) (e84n1 K k a0 a1 c p) h
def o84n2 : List RI := [⟨(some 9), none, (.q (.mov (.t 5)))⟩, ⟨(some 10), none, (.q (.bin .lss 3 (.t 9) (.k (.int .i64 0))))⟩]
noncomputable def b84n2 (K : KTC) (k : KS) (a5 a1 : AV) (c : KN) (p : KV) : Kr :=
  xLss 3 a5 (.sc (.int .i64 0)) fun v0 =>
  c [(1, a1), (5, a5), (10, v0)] k
theorem e84n2 (K : KTC) (k : KS) (a5 a1 : AV) (c : KN) (p : KV) : b84n2 K k a5 a1 c p = wReg Tryz.prog K [1, 5, 10] o84n2 [(5, a5), (1, a1)] k c p := by unfold b84n2; simp only [xLss_eq]; kernel_rfl
noncomputable def s84n2 (K : KTC) (e : Env) (k : KS) (c : KN) (p : KV) : Kr := gt e 5 fun a5 => gt e 1 fun a1 => b84n2 K k a5 a1 c p
theorem p84n2 (K : KTC) (K' : KT) (hK : CSound K K') : FitsC Tryz.prog K' (.reg (s84n2 K)) (.reg o84n2 [1, 5, 10]) := fun e k c p y h => by
  obtain ⟨a5, h5, h⟩ := gt_some h
  obtain ⟨a1, h1, h⟩ := gt_some h
  exact wreg_fit hK (by decide +kernel) (keep_cons h5 (keep_cons h1 (keep_nil))) (e84n2 K k a5 a1 c p) h
def o84n3 : List RI := [⟨(some 11), none, (.q (.mov (.t 5)))⟩, ⟨(some 12), none, (.q (.bin .add 3 (.t 11) (.k (.int .i64 2147483647))))⟩, ⟨(some 5), none, (.q (.mov (.t 12)))⟩]
noncomputable def b84n3 (K : KTC) (k : KS) (a5 a1 : AV) (c : KN) (p : KV) : Kr :=
  xAdd 3 a5 (.sc (.int .i64 2147483647)) fun v0 =>
  c [(1, a1), (5, v0)] k
theorem e84n3 (K : KTC) (k : KS) (a5 a1 : AV) (c : KN) (p : KV) : b84n3 K k a5 a1 c p = wReg Tryz.prog K [1, 5] o84n3 [(5, a5), (1, a1)] k c p := by unfold b84n3; simp only [xAdd_eq]; kernel_rfl
noncomputable def s84n3 (K : KTC) (e : Env) (k : KS) (c : KN) (p : KV) : Kr := gt e 5 fun a5 => gt e 1 fun a1 => b84n3 K k a5 a1 c p
theorem p84n3 (K : KTC) (K' : KT) (hK : CSound K K') : FitsC Tryz.prog K' (.reg (s84n3 K)) (.reg o84n3 [1, 5]) := fun e k c p y h => by
  obtain ⟨a5, h5, h⟩ := gt_some h
  obtain ⟨a1, h1, h⟩ := gt_some h
  exact wreg_fit hK (by decide +kernel) (keep_cons h5 (keep_cons h1 (keep_nil))) (e84n3 K k a5 a1 c p) h
def o84n4 : List RI := [⟨(some 13), none, (.q (.mov (.t 5)))⟩, ⟨(some 14), none, (.q (.bin .add 3 (.t 13) (.k (.int .i64 1))))⟩, ⟨(some 5), none, (.q (.mov (.t 14)))⟩]
noncomputable def b84n4 (K : KTC) (k : KS) (a5 a1 : AV) (c : KN) (p : KV) : Kr :=
  xAdd 3 a5 (.sc (.int .i64 1)) fun v0 =>
  c [(1, a1), (5, v0)] k
theorem e84n4 (K : KTC) (k : KS) (a5 a1 : AV) (c : KN) (p : KV) : b84n4 K k a5 a1 c p = wReg Tryz.prog K [1, 5] o84n4 [(5, a5), (1, a1)] k c p := by unfold b84n4; simp only [xAdd_eq]; kernel_rfl
noncomputable def s84n4 (K : KTC) (e : Env) (k : KS) (c : KN) (p : KV) : Kr := gt e 5 fun a5 => gt e 1 fun a1 => b84n4 K k a5 a1 c p
theorem p84n4 (K : KTC) (K' : KT) (hK : CSound K K') : FitsC Tryz.prog K' (.reg (s84n4 K)) (.reg o84n4 [1, 5]) := fun e k c p y h => by
  obtain ⟨a5, h5, h⟩ := gt_some h
  obtain ⟨a1, h1, h⟩ := gt_some h
  exact wreg_fit hK (by decide +kernel) (keep_cons h5 (keep_cons h1 (keep_nil))) (e84n4 K k a5 a1 c p) h
def o84n5 : List RI := [⟨(some 6), none, (.q (.mov (.k (.int .i64 0))))⟩]
noncomputable def b84n5 (K : KTC) (k : KS) (a1 a5 : AV) (c : KN) (p : KV) : Kr :=
  c [(1, a1), (5, a5), (6, (.sc (.int .i64 0)))] k
theorem e84n5 (K : KTC) (k : KS) (a1 a5 : AV) (c : KN) (p : KV) : b84n5 K k a1 a5 c p = wReg Tryz.prog K [1, 5, 6] o84n5 [(1, a1), (5, a5)] k c p := by unfold b84n5; kernel_rfl
noncomputable def s84n5 (K : KTC) (e : Env) (k : KS) (c : KN) (p : KV) : Kr := gt e 1 fun a1 => gt e 5 fun a5 => b84n5 K k a1 a5 c p
theorem p84n5 (K : KTC) (K' : KT) (hK : CSound K K') : FitsC Tryz.prog K' (.reg (s84n5 K)) (.reg o84n5 [1, 5, 6]) := fun e k c p y h => by
  obtain ⟨a1, h1, h⟩ := gt_some h
  obtain ⟨a5, h5, h⟩ := gt_some h
  exact wreg_fit hK (by decide +kernel) (keep_cons h1 (keep_cons h5 (keep_nil))) (e84n5 K k a1 a5 c p) h
def o84n6 : List RI := [⟨(some 15), none, (.q (.mov (.t 6)))⟩, ⟨(some 16), none, (.q (.mov (.t 1)))⟩, ⟨(some 17), none, (.q (.len false (.t 16)))⟩, ⟨(some 18), none, (.q (.bin .lss 3 (.t 15) (.t 17)))⟩]
noncomputable def b84n6 (K : KTC) (k : KS) (a6 a1 a5 : AV) (c : KN) (p : KV) : Kr :=
  xLen a1 fun v0 =>
  xLss 3 a6 v0 fun v1 =>
  c [(1, a1), (5, a5), (6, a6), (18, v1)] k
theorem e84n6 (K : KTC) (k : KS) (a6 a1 a5 : AV) (c : KN) (p : KV) : b84n6 K k a6 a1 a5 c p = wReg Tryz.prog K [1, 5, 6, 18] o84n6 [(6, a6), (1, a1), (5, a5)] k c p := by unfold b84n6; simp only [xLss_eq, xLen_eq]; kernel_rfl
noncomputable def s84n6 (K : KTC) (e : Env) (k : KS) (c : KN) (p : KV) : Kr := gt e 6 fun a6 => gt e 1 fun a1 => gt e 5 fun a5 => b84n6 K k a6 a1 a5 c p
theorem p84n6 (K : KTC) (K' : KT) (hK : CSound K K') : FitsC Tryz.prog K' (.reg (s84n6 K)) (.reg o84n6 [1, 5, 6, 18]) := fun e k c p y h => by
  obtain ⟨a6, h6, h⟩ := gt_some h
  obtain ⟨a1, h1, h⟩ := gt_some h
  obtain ⟨a5, h5, h⟩ := gt_some h
  exact wreg_fit hK (by decide +kernel) (keep_cons h6 (keep_cons h1 (keep_cons h5 (keep_nil)))) (e84n6 K k a6 a1 a5 c p) h
def o84n7 : List RI := [⟨(some 21), none, (.q (.mov (.t 5)))⟩, ⟨(some 22), none, (.q (.bin .mul 3 (.t 21) (.k (.int .i64 257))))⟩, ⟨(some 23), none, (.q (.mov (.t 1)))⟩, ⟨(some 24), none, (.q (.mov (.t 6)))⟩, ⟨(some 25), none, (.q (.ixs 1 (.t 23) (.t 24)))⟩, ⟨(some 26), none, (.rd (.ld false 1 (.t 25)))⟩, ⟨(some 27), none, (.q (.conv 5 3 (.t 26)))⟩, ⟨(some 28), none, (.q (.bin .add 3 (.t 22) (.t 27)))⟩, ⟨(some 29), none, (.q (.bin .add 3 (.t 28) (.k (.int .i64 1))))⟩, ⟨(some 30), none, (.q (.bin .rem 3 (.t 29) (.k (.int .i64 2147483647))))⟩, ⟨(some 5), none, (.q (.mov (.t 30)))⟩]
noncomputable def b84n7 (K : KTC) (k : KS) (a5 a1 a6 : AV) (c : KN) (p : KV) : Kr :=
  xMul 3 a5 (.sc (.int .i64 257)) fun v0 =>
  xIxl k.t 1 false 1 a1 a6 fun v1 =>
  xConv 5 3 v1 fun v2 =>
  xAdd 3 v0 v2 fun v3 =>
  xAdd 3 v3 (.sc (.int .i64 1)) fun v4 =>
  xRem 3 v4 (.sc (.int .i64 2147483647)) fun v5 =>
  c [(1, a1), (5, v5), (6, a6)] k
theorem e84n7 (K : KTC) (k : KS) (a5 a1 a6 : AV) (c : KN) (p : KV) : b84n7 K k a5 a1 a6 c p = wReg Tryz.prog K [1, 5, 6] o84n7 [(5, a5), (1, a1), (6, a6)] k c p := by unfold b84n7; simp only [xRem_eq, xAdd_eq, xConv_eq, xIxl_eq, xMul_eq]; kernel_rfl
noncomputable def s84n7 (K : KTC) (e : Env) (k : KS) (c : KN) (p : KV) : Kr := gt e 5 fun a5 => gt e 1 fun a1 => gt e 6 fun a6 => b84n7 K k a5 a1 a6 c p
theorem p84n7 (K : KTC) (K' : KT) (hK : CSound K K') : FitsC Tryz.prog K' (.reg (s84n7 K)) (.reg o84n7 [1, 5, 6]) := fun e k c p y h => by
  obtain ⟨a5, h5, h⟩ := gt_some h
  obtain ⟨a1, h1, h⟩ := gt_some h
  obtain ⟨a6, h6, h⟩ := gt_some h
  exact wreg_fit hK (by decide +kernel) (keep_cons h5 (keep_cons h1 (keep_cons h6 (keep_nil)))) (e84n7 K k a5 a1 a6 c p) h
def o84n8 : List RI := [⟨(some 19), none, (.q (.mov (.t 6)))⟩, ⟨(some 20), none, (.q (.bin .add 3 (.t 19) (.k (.int .i64 1))))⟩, ⟨(some 6), none, (.q (.mov (.t 20)))⟩]
noncomputable def b84n8 (K : KTC) (k : KS) (a6 a1 a5 : AV) (c : KN) (p : KV) : Kr :=
  xAdd 3 a6 (.sc (.int .i64 1)) fun v0 =>
  c [(1, a1), (5, a5), (6, v0)] k
theorem e84n8 (K : KTC) (k : KS) (a6 a1 a5 : AV) (c : KN) (p : KV) : b84n8 K k a6 a1 a5 c p = wReg Tryz.prog K [1, 5, 6] o84n8 [(6, a6), (1, a1), (5, a5)] k c p := by unfold b84n8; simp only [xAdd_eq]; kernel_rfl
noncomputable def s84n8 (K : KTC) (e : Env) (k : KS) (c : KN) (p : KV) : Kr := gt e 6 fun a6 => gt e 1 fun a1 => gt e 5 fun a5 => b84n8 K k a6 a1 a5 c p
theorem p84n8 (K : KTC) (K' : KT) (hK : CSound K K') : FitsC Tryz.prog K' (.reg (s84n8 K)) (.reg o84n8 [1, 5, 6]) := fun e k c p y h => by
  obtain ⟨a6, h6, h⟩ := gt_some h
  obtain ⟨a1, h1, h⟩ := gt_some h
  obtain ⟨a5, h5, h⟩ := gt_some h
  exact wreg_fit hK (by decide +kernel) (keep_cons h6 (keep_cons h1 (keep_cons h5 (keep_nil)))) (e84n8 K k a6 a1 a5 c p) h
def o84n9 : List RI := [⟨(some 31), none, (.q (.mov (.t 5)))⟩, ⟨(some 32), none, (.q (.mov (.t 1)))⟩, ⟨(some 33), none, (.q (.len false (.t 32)))⟩, ⟨(some 34), none, (.q (.bin .add 3 (.t 31) (.t 33)))⟩, ⟨(some 35), none, (.q (.bin .rem 3 (.t 34) (.k (.int .i64 2147483647))))⟩, ⟨(some 4), none, (.q (.mov (.t 35)))⟩]
noncomputable def b84n9 (K : KTC) (k : KS) (a5 a1 : AV) (c : KN) (p : KV) : Kr :=
  xLen a1 fun v0 =>
  xAdd 3 a5 v0 fun v1 =>
  xRem 3 v1 (.sc (.int .i64 2147483647)) fun v2 =>
  c [(4, v2)] k
theorem e84n9 (K : KTC) (k : KS) (a5 a1 : AV) (c : KN) (p : KV) : b84n9 K k a5 a1 c p = wReg Tryz.prog K [4] o84n9 [(5, a5), (1, a1)] k c p := by unfold b84n9; simp only [xRem_eq, xAdd_eq, xLen_eq]; kernel_rfl
noncomputable def s84n9 (K : KTC) (e : Env) (k : KS) (c : KN) (p : KV) : Kr := gt e 5 fun a5 => gt e 1 fun a1 => b84n9 K k a5 a1 c p
theorem p84n9 (K : KTC) (K' : KT) (hK : CSound K K') : FitsC Tryz.prog K' (.reg (s84n9 K)) (.reg o84n9 [4]) := fun e k c p y h => by
  obtain ⟨a5, h5, h⟩ := gt_some h
  obtain ⟨a1, h1, h⟩ := gt_some h
  exact wreg_fit hK (by decide +kernel) (keep_cons h5 (keep_cons h1 (keep_nil))) (e84n9 K k a5 a1 c p) h
def r84 : RFn := ⟨2, .seq (.reg o84n0 [0, 1]) (.seq (.reg o84n1 [1, 5]) (.seq (.seq (.reg o84n2 [1, 5, 10]) (.cond (.t 10) (.reg o84n3 [1, 5]) (.skip))) (.seq (.reg o84n4 [1, 5]) (.seq (.seq (.reg o84n5 [1, 5, 6]) (.block 0 (.loop [1, 5, 6] (.seq (.seq (.reg o84n6 [1, 5, 6, 18]) (.cond (.t 18) (.skip) (.exit 0))) (.seq (.block 1 (.reg o84n7 [1, 5, 6])) (.reg o84n8 [1, 5, 6])))))) (.seq (.reg o84n9 [4]) (.ret)))))), [.tmp 4], []⟩
noncomputable def q84 (K : KTC) : FK := .seq (.reg (s84n0 K)) (.seq (.reg (s84n1 K)) (.seq (.seq (.reg (s84n2 K)) (.cond (.t 10) (.reg (s84n3 K)) (.skip))) (.seq (.reg (s84n4 K)) (.seq (.seq (.reg (s84n5 K)) (.block 0 (.loop [1, 5, 6] (.seq (.seq (.reg (s84n6 K)) (.cond (.t 18) (.skip) (.exit 0))) (.seq (.block 1 (.reg (s84n7 K))) (.reg (s84n8 K))))))) (.seq (.reg (s84n9 K)) (.ret))))))
theorem ok84 (K : KTC) (K' : KT) (hK : CSound K K') : FitsC Tryz.prog K' (q84 K) r84.code := hs (p84n0 K _ hK) (hs (p84n1 K _ hK) (hs (hs (p84n2 K _ hK) (hc (p84n3 K _ hK) (hk))) (hs (p84n4 K _ hK) (hs (hs (p84n5 K _ hK) (hb (hl (by decide +kernel) (hs (hs (p84n6 K _ hK) (hc (hk) (hx))) (hs (hb (p84n7 K _ hK)) (p84n8 K _ hK)))))) (hs (p84n9 K _ hK) (hr))))))
noncomputable def g84 : HFn Tryz.prog := ⟨r84, q84, ok84⟩
theorem c84 : chkF Tryz.prog Tryz.f84 r84 = true := by decide +kernel

/-- slices.Clone[[]doubletake/api.Cell,doubletake/api.Cell] -/
def r85 : RFn := ⟨1,
  .seq (
  .reg [⟨(some 2), none, (.q (.mov .nils))⟩] [0]) (
  .seq (
  .seq (
  .reg [⟨(some 3), none, (.q (.mov (.t 0)))⟩,
    ⟨(some 4), none, (.q (.nil 1 false (.t 3)))⟩] [0, 4]) (
  .cond (.t 4) (
   .seq (
   .reg [⟨(some 2), none, (.q (.mov .nils))⟩] [2]) (
   .ret)) (
   .skip))) (
  .seq (
  .reg [⟨(some 5), none, (.al (.bldS 4 0 (.agg [1, 3] [(.sc (.bool false)), (.agg [1, 1, 1] [(.sc (.int .i64 0)), (.sc (.int .i64 0)), (.sc (.int .i64 0))])]) []))⟩,
    ⟨(some 6), none, (.q (.mov (.t 0)))⟩,
    ⟨(some 7), none, (.ac (.app false 4 32 (.t 5) (.t 6)))⟩,
    ⟨(some 2), none, (.q (.mov (.t 7)))⟩] [2]) (
  .ret))),
  [.tmp 2], []⟩
noncomputable def g85 : HFn Tryz.prog := ⟨r85, fun K => wslow Tryz.prog K r85.code, fun _ _ hK => wslow_fits hK _ (by decide +kernel)⟩
theorem c85 : chkF Tryz.prog Tryz.f85 r85 = true := by decide +kernel

/-! doubletake/doubletakeref15.is -/
def o96n0 : List RI := [⟨(some 6), none, (.q (.mov (.k (.bool false))))⟩]
noncomputable def b96n0 (K : KTC) (k : KS) (a0 a1 a2 : AV) (c : KN) (p : KV) : Kr :=
  c [(0, a0), (1, a1), (2, a2)] k
theorem e96n0 (K : KTC) (k : KS) (a0 a1 a2 : AV) (c : KN) (p : KV) : b96n0 K k a0 a1 a2 c p = wReg Tryz.prog K [0, 1, 2] o96n0 [(0, a0), (1, a1), (2, a2)] k c p := by unfold b96n0; kernel_rfl
noncomputable def s96n0 (K : KTC) (e : Env) (k : KS) (c : KN) (p : KV) : Kr := gt e 0 fun a0 => gt e 1 fun a1 => gt e 2 fun a2 => b96n0 K k a0 a1 a2 c p
theorem p96n0 (K : KTC) (K' : KT) (hK : CSound K K') : FitsC Tryz.prog K' (.reg (s96n0 K)) (.reg o96n0 [0, 1, 2]) := fun e k c p y h => by
  obtain ⟨a0, h0, h⟩ := gt_some h
  obtain ⟨a1, h1, h⟩ := gt_some h
  obtain ⟨a2, h2, h⟩ := gt_some h
  exact wreg_fit hK (by decide +kernel) (keep_cons h0 (keep_cons h1 (keep_cons h2 (keep_nil)))) (e96n0 K k a0 a1 a2 c p) h
def o96n1 : List RI := [⟨(some 7), none, (.q (.mov (.t 0)))⟩, ⟨(some 8), none, (.q (.mov (.t 1)))⟩, ⟨(some 9), none, (.q (.bin .geq 3 (.t 7) (.t 8)))⟩, ⟨(some 10), none, (.q (.mov (.t 9)))⟩, ⟨(some 11), (some (10, true)), (.q (.mov (.t 0)))⟩, ⟨(some 12), (some (10, true)), (.q (.mov (.t 2)))⟩, ⟨(some 13), (some (10, true)), (.q (.bin .leq 3 (.t 11) (.t 12)))⟩, ⟨(some 14), none, (.q (.pick (.t 10) (.t 13) (.k (.bool false))))⟩, ⟨(some 6), none, (.q (.mov (.t 14)))⟩]
def r96 : RFn := ⟨3, .seq (.reg o96n0 [0, 1, 2]) (.seq (.reg o96n1 [6]) (.ret)), [.tmp 6], []⟩
noncomputable def q96 (K : KTC) : FK := .seq (.reg (s96n0 K)) (.seq (.reg fun e k c p => wReg Tryz.prog K [6] o96n1 e k c p) (.ret))
theorem ok96 (K : KTC) (K' : KT) (hK : CSound K K') : FitsC Tryz.prog K' (q96 K) r96.code := hs (p96n0 K _ hK) (hs (wslow_reg hK) (hr))
noncomputable def g96 : HFn Tryz.prog := ⟨r96, q96, ok96⟩
theorem c96 : chkF Tryz.prog Tryz.f96 r96 = true := by decide +kernel

/-- doubletake/doubletakeref15.RightInput -/
def r97 : RFn := ⟨1,
  .seq (
  .reg [⟨(some 1), none, (.al (.box (.t 0)))⟩,
    ⟨(some 2), none, (.q (.mov (.k (.bool false))))⟩] [1]) (
  .seq (
  .reg [⟨(some 3), none, (.q (.fld 0 0 (.t 1)))⟩,
    ⟨(some 4), none, (.rd (.ld false 1 (.t 3)))⟩,
    ⟨(some 5), none, (.ac (.callf 96 [(.t 4), (.k (.int .i64 0)), (.k (.int .i64 255))]))⟩,
    ⟨(some 6), none, (.q (.mov (.t 5)))⟩,
    ⟨(some 7), (some (6, true)), (.q (.fld 1 1 (.t 1)))⟩,
    ⟨(some 8), (some (6, true)), (.rd (.ld false 1 (.t 7)))⟩,
    ⟨(some 9), (some (6, true)), (.ac (.callf 96 [(.t 8), (.k (.int .i64 (-64))), (.k (.int .i64 64))]))⟩,
    ⟨(some 10), none, (.q (.pick (.t 6) (.t 9) (.k (.bool false))))⟩,
    ⟨(some 11), none, (.q (.mov (.t 10)))⟩,
    ⟨(some 12), (some (11, true)), (.q (.fld 2 2 (.t 1)))⟩,
    ⟨(some 13), (some (11, true)), (.rd (.ld false 1 (.t 12)))⟩,
    ⟨(some 14), (some (11, true)), (.ac (.callf 96 [(.t 13), (.k (.int .i64 (-64))), (.k (.int .i64 64))]))⟩,
    ⟨(some 15), none, (.q (.pick (.t 11) (.t 14) (.k (.bool false))))⟩,
    ⟨(some 2), none, (.q (.mov (.t 15)))⟩] [1, 2]) (
  .ret)),
  [.tmp 2], [1]⟩
noncomputable def g97 : HFn Tryz.prog := ⟨r97, fun K => wslow Tryz.prog K r97.code, fun _ _ hK => wslow_fits hK _ (by decide +kernel)⟩
theorem c97 : chkF Tryz.prog Tryz.f97 r97 = true := by decide +kernel

/-- doubletake/doubletakeref15.rightRows -/
def r98 : RFn := ⟨1,
  .seq (
  .reg [⟨(some 1), none, (.al (.box (.t 0)))⟩,
    ⟨(some 2), none, (.q (.mov (.k (.bool false))))⟩] [1]) (
  .seq (
  .seq (
  .reg [⟨(some 3), none, (.q (.mov (.k (.int .i64 0))))⟩] [1, 3]) (
  .block 0 (
   .loop [1, 3] (
    .free [5] (
    .seq (
    .seq (
    .reg [⟨(some 6), none, (.q (.mov (.t 3)))⟩,
      ⟨(some 7), none, (.q (.fld 10 10 (.t 1)))⟩,
      ⟨(some 8), none, (.rd (.ld false 1 (.t 7)))⟩,
      ⟨(some 9), none, (.q (.len false (.t 8)))⟩,
      ⟨(some 10), none, (.q (.bin .lss 3 (.t 6) (.t 9)))⟩] [1, 3, 5, 10]) (
    .cond (.t 10) (
     .skip) (
     .exit 0))) (
    .seq (
    .block 1 (
     .seq (
     .seq (
     .draw [(0, ⟨(some 13), none, (.q (.fld 10 10 (.t 1)))⟩, 0),
       (1, ⟨(some 14), none, (.rd (.ld false 1 (.t 13)))⟩, 0),
       (2, ⟨(some 15), none, (.q (.mov (.t 3)))⟩, 0),
       (3, ⟨(some 16), none, (.q (.ixs 1 (.t 14) (.t 15)))⟩, 0),
       (4, ⟨(some 17), none, (.rd (.ld false 1 (.t 16)))⟩, 0),
       (5, ⟨(some 18), none, (.q (.len false (.t 17)))⟩, 0),
       (6, ⟨(some 19), none, (.q (.fld 9 9 (.t 1)))⟩, 0),
       (7, ⟨(some 20), none, (.rd (.ld false 1 (.t 19)))⟩, 0),
       (8, ⟨(some 21), none, (.q (.bin .neq 3 (.t 18) (.t 20)))⟩, 0)] [1, 3, 5, 21]) (
     .cond (.t 21) (
      .seq (
      .reg [⟨(some 2), none, (.q (.mov (.k (.bool false))))⟩] [1, 2, 5]) (
      .ret)) (
      .skip))) (
     .seq (
     .reg [⟨(some 4), none, (.q (.mov (.k (.int .i64 0))))⟩] [1, 3, 4]) (
     .block 2 (
      .loop [1, 3, 4] (
       .free [5] (
       .seq (
       .seq (
       .reg [⟨(some 22), none, (.q (.mov (.t 4)))⟩,
         ⟨(some 23), none, (.q (.fld 10 10 (.t 1)))⟩,
         ⟨(some 24), none, (.rd (.ld false 1 (.t 23)))⟩,
         ⟨(some 25), none, (.q (.mov (.t 3)))⟩,
         ⟨(some 26), none, (.q (.ixs 1 (.t 24) (.t 25)))⟩,
         ⟨(some 27), none, (.rd (.ld false 1 (.t 26)))⟩,
         ⟨(some 28), none, (.q (.len false (.t 27)))⟩,
         ⟨(some 29), none, (.q (.bin .lss 3 (.t 22) (.t 28)))⟩] [1, 3, 4, 5, 29]) (
       .cond (.t 29) (
        .skip) (
        .exit 2))) (
       .seq (
       .block 3 (
        .seq (
        .reg [⟨(some 32), none, (.q (.fld 10 10 (.t 1)))⟩,
          ⟨(some 33), none, (.rd (.ld false 1 (.t 32)))⟩,
          ⟨(some 34), none, (.q (.mov (.t 3)))⟩,
          ⟨(some 35), none, (.q (.ixs 1 (.t 33) (.t 34)))⟩,
          ⟨(some 36), none, (.rd (.ld false 1 (.t 35)))⟩,
          ⟨(some 37), none, (.q (.mov (.t 4)))⟩,
          ⟨(some 38), none, (.q (.ixs 4 (.t 36) (.t 37)))⟩,
          ⟨(some 39), none, (.rd (.ld true 4 (.t 38)))⟩,
          ⟨(some 5), none, (.al (.alloc (.agg [1, 3] [(.sc (.bool false)), (.agg [1, 1, 1] [(.sc (.int .i64 0)), (.sc (.int .i64 0)), (.sc (.int .i64 0))])])))⟩,
          ⟨none, none, (.ac (.st 4 (.t 5) (.t 39)))⟩] [1, 3, 4, 5]) (
        .seq (
        .reg [⟨(some 40), none, (.q (.fld 1 1 (.t 5)))⟩,
          ⟨(some 41), none, (.rd (.ld true 3 (.t 40)))⟩,
          ⟨(some 42), none, (.ac (.callf 97 [(.t 41)]))⟩,
          ⟨(some 43), none, (.q (.un .not (.t 42)))⟩,
          ⟨(some 44), none, (.q (.mov (.t 43)))⟩,
          ⟨(some 45), (some (44, false)), (.q (.fld 0 0 (.t 5)))⟩,
          ⟨(some 46), (some (44, false)), (.rd (.ld false 1 (.t 45)))⟩,
          ⟨(some 47), (some (44, false)), (.q (.un .not (.t 46)))⟩,
          ⟨(some 48), (some (44, false)), (.q (.mov (.t 47)))⟩,
          ⟨(some 49), (some (48, true)), (.q (.fld 1 1 (.t 5)))⟩,
          ⟨(some 50), (some (48, true)), (.rd (.ld true 3 (.t 49)))⟩,
          ⟨(some 51), (some (48, true)), (.q (.bld (.agg [1, 1, 1] [(.sc (.int .i64 0)), (.sc (.int .i64 0)), (.sc (.int .i64 0))]) []))⟩,
          ⟨(some 52), (some (48, true)), (.q (.bin .neq 34 (.t 50) (.t 51)))⟩,
          ⟨(some 53), (some (44, false)), (.q (.pick (.t 48) (.t 52) (.k (.bool false))))⟩,
          ⟨(some 54), none, (.q (.pick (.t 44) (.k (.bool true)) (.t 53)))⟩] [1, 3, 4, 5, 54]) (
        .cond (.t 54) (
         .seq (
         .reg [⟨(some 2), none, (.q (.mov (.k (.bool false))))⟩] [1, 2, 5]) (
         .ret)) (
         .skip))))) (
       .reg [⟨(some 30), none, (.q (.mov (.t 4)))⟩,
         ⟨(some 31), none, (.q (.bin .add 3 (.t 30) (.k (.int .i64 1))))⟩,
         ⟨(some 4), none, (.q (.mov (.t 31)))⟩] [1, 3, 4, 5]))))))))) (
    .reg [⟨(some 11), none, (.q (.mov (.t 3)))⟩,
      ⟨(some 12), none, (.q (.bin .add 3 (.t 11) (.k (.int .i64 1))))⟩,
      ⟨(some 3), none, (.q (.mov (.t 12)))⟩] [1, 3, 5]))))))) (
  .seq (
  .reg [⟨(some 55), none, (.q (.fld 10 10 (.t 1)))⟩,
    ⟨(some 56), none, (.rd (.ld false 1 (.t 55)))⟩,
    ⟨(some 57), none, (.q (.len false (.t 56)))⟩,
    ⟨(some 58), none, (.q (.bin .leq 3 (.t 57) (.k (.int .i64 8))))⟩,
    ⟨(some 59), none, (.q (.mov (.t 58)))⟩,
    ⟨(some 60), (some (59, true)), (.q (.fld 9 9 (.t 1)))⟩,
    ⟨(some 61), (some (59, true)), (.rd (.ld false 1 (.t 60)))⟩,
    ⟨(some 62), (some (59, true)), (.ac (.callf 96 [(.t 61), (.k (.int .i64 1)), (.k (.int .i64 8))]))⟩,
    ⟨(some 63), none, (.q (.pick (.t 59) (.t 62) (.k (.bool false))))⟩,
    ⟨(some 2), none, (.q (.mov (.t 63)))⟩] [1, 2, 5]) (
  .ret))),
  [.tmp 2], [1, 5]⟩
noncomputable def g98 : HFn Tryz.prog := ⟨r98, fun K => wslow Tryz.prog K r98.code, fun _ _ hK => wslow_fits hK _ (by decide +kernel)⟩
theorem c98 : chkF Tryz.prog Tryz.f98 r98 = true := by decide +kernel

/-- doubletake/doubletakeref1.four -/
def r99 : RFn := ⟨1,
  .seq (
  .reg [⟨(some 2), none, (.q (.mov .nils))⟩] [0]) (
  .seq (
  .reg [⟨(some 3), none, (.q (.mov (.t 0)))⟩,
    ⟨(some 4), none, (.q (.bin .shr 3 (.t 3) (.k (.int .u64 24))))⟩,
    ⟨(some 5), none, (.q (.conv 3 5 (.t 4)))⟩,
    ⟨(some 6), none, (.q (.mov (.t 0)))⟩,
    ⟨(some 7), none, (.q (.bin .shr 3 (.t 6) (.k (.int .u64 16))))⟩,
    ⟨(some 8), none, (.q (.conv 3 5 (.t 7)))⟩,
    ⟨(some 9), none, (.q (.mov (.t 0)))⟩,
    ⟨(some 10), none, (.q (.bin .shr 3 (.t 9) (.k (.int .u64 8))))⟩,
    ⟨(some 11), none, (.q (.conv 3 5 (.t 10)))⟩,
    ⟨(some 12), none, (.q (.mov (.t 0)))⟩,
    ⟨(some 13), none, (.q (.conv 3 5 (.t 12)))⟩,
    ⟨(some 14), none, (.al (.bldS 1 4 (.sc (.int .u8 0)) [(0, (.t 5)), (1, (.t 8)), (2, (.t 11)), (3, (.t 13))]))⟩,
    ⟨(some 2), none, (.q (.mov (.t 14)))⟩] [2]) (
  .ret)),
  [.tmp 2], []⟩
noncomputable def g99 : HFn Tryz.prog := ⟨r99, fun K => wslow Tryz.prog K r99.code, fun _ _ hK => wslow_fits hK _ (by decide +kernel)⟩
theorem c99 : chkF Tryz.prog Tryz.f99 r99 = true := by decide +kernel

/-- doubletake/doubletakeref15.flag -/
def r100 : RFn := ⟨1,
  .seq (
  .reg [⟨(some 2), none, (.q (.mov (.k (.int .i64 0))))⟩] [0]) (
  .seq (
  .seq (
  .reg [⟨(some 3), none, (.q (.mov (.t 0)))⟩] [3]) (
  .cond (.t 3) (
   .seq (
   .reg [⟨(some 2), none, (.q (.mov (.k (.int .i64 1))))⟩] [2]) (
   .ret)) (
   .skip))) (
  .seq (
  .reg [⟨(some 2), none, (.q (.mov (.k (.int .i64 0))))⟩] [2]) (
  .ret))),
  [.tmp 2], []⟩
noncomputable def g100 : HFn Tryz.prog := ⟨r100, fun K => wslow Tryz.prog K r100.code, fun _ _ hK => wslow_fits hK _ (by decide +kernel)⟩
theorem c100 : chkF Tryz.prog Tryz.f100 r100 = true := by decide +kernel

/-- doubletake/doubletakeref15.layInput -/
def r101 : RFn := ⟨2,
  .seq (
  .reg [⟨(some 3), none, (.al (.box (.t 1)))⟩] [0, 3]) (
  .seq (
  .reg [⟨(some 4), none, (.q (.mov (.t 0)))⟩,
    ⟨(some 5), none, (.q (.fld 0 0 (.t 3)))⟩,
    ⟨(some 6), none, (.rd (.ld false 1 (.t 5)))⟩,
    ⟨(some 7), none, (.ac (.callf 81 [(.t 4), (.t 6), (.k (.int .i64 8))]))⟩] [0, 3]) (
  .seq (
  .reg [⟨(some 8), none, (.q (.mov (.t 0)))⟩,
    ⟨(some 9), none, (.q (.fld 1 1 (.t 3)))⟩,
    ⟨(some 10), none, (.rd (.ld false 1 (.t 9)))⟩,
    ⟨(some 11), none, (.ac (.callf 81 [(.t 8), (.t 10), (.k (.int .i64 8))]))⟩] [0, 3]) (
  .reg [⟨(some 12), none, (.q (.mov (.t 0)))⟩,
    ⟨(some 13), none, (.q (.fld 2 2 (.t 3)))⟩,
    ⟨(some 14), none, (.rd (.ld false 1 (.t 13)))⟩,
    ⟨(some 15), none, (.ac (.callf 81 [(.t 12), (.t 14), (.k (.int .i64 8))]))⟩] [3]))),
  [], [3]⟩
noncomputable def g101 : HFn Tryz.prog := ⟨r101, fun K => wslow Tryz.prog K r101.code, fun _ _ hK => wslow_fits hK _ (by decide +kernel)⟩
theorem c101 : chkF Tryz.prog Tryz.f101 r101 = true := by decide +kernel

/-! doubletake/step.within -/
def o102n0 : List RI := [⟨(some 6), none, (.q (.mov (.k (.bool false))))⟩]
noncomputable def b102n0 (K : KTC) (k : KS) (a0 a1 a2 : AV) (c : KN) (p : KV) : Kr :=
  c [(0, a0), (1, a1), (2, a2)] k
theorem e102n0 (K : KTC) (k : KS) (a0 a1 a2 : AV) (c : KN) (p : KV) : b102n0 K k a0 a1 a2 c p = wReg Tryz.prog K [0, 1, 2] o102n0 [(0, a0), (1, a1), (2, a2)] k c p := by unfold b102n0; kernel_rfl
noncomputable def s102n0 (K : KTC) (e : Env) (k : KS) (c : KN) (p : KV) : Kr := gt e 0 fun a0 => gt e 1 fun a1 => gt e 2 fun a2 => b102n0 K k a0 a1 a2 c p
theorem p102n0 (K : KTC) (K' : KT) (hK : CSound K K') : FitsC Tryz.prog K' (.reg (s102n0 K)) (.reg o102n0 [0, 1, 2]) := fun e k c p y h => by
  obtain ⟨a0, h0, h⟩ := gt_some h
  obtain ⟨a1, h1, h⟩ := gt_some h
  obtain ⟨a2, h2, h⟩ := gt_some h
  exact wreg_fit hK (by decide +kernel) (keep_cons h0 (keep_cons h1 (keep_cons h2 (keep_nil)))) (e102n0 K k a0 a1 a2 c p) h
def o102n1 : List RI := [⟨(some 7), none, (.q (.mov (.t 0)))⟩, ⟨(some 8), none, (.q (.mov (.t 1)))⟩, ⟨(some 9), none, (.q (.bin .geq 3 (.t 7) (.t 8)))⟩, ⟨(some 10), none, (.q (.mov (.t 9)))⟩, ⟨(some 11), (some (10, true)), (.q (.mov (.t 0)))⟩, ⟨(some 12), (some (10, true)), (.q (.mov (.t 2)))⟩, ⟨(some 13), (some (10, true)), (.q (.bin .leq 3 (.t 11) (.t 12)))⟩, ⟨(some 14), none, (.q (.pick (.t 10) (.t 13) (.k (.bool false))))⟩, ⟨(some 6), none, (.q (.mov (.t 14)))⟩]
def r102 : RFn := ⟨3, .seq (.reg o102n0 [0, 1, 2]) (.seq (.reg o102n1 [6]) (.ret)), [.tmp 6], []⟩
noncomputable def q102 (K : KTC) : FK := .seq (.reg (s102n0 K)) (.seq (.reg fun e k c p => wReg Tryz.prog K [6] o102n1 e k c p) (.ret))
theorem ok102 (K : KTC) (K' : KT) (hK : CSound K K') : FitsC Tryz.prog K' (q102 K) r102.code := hs (p102n0 K _ hK) (hs (wslow_reg hK) (hr))
noncomputable def g102 : HFn Tryz.prog := ⟨r102, q102, ok102⟩
theorem c102 : chkF Tryz.prog Tryz.f102 r102 = true := by decide +kernel

/-- doubletake/rule.Right -/
def r103 : RFn := ⟨1,
  .seq (
  .reg [⟨(some 2), none, (.q (.mov (.k (.bool false))))⟩] [0]) (
  .seq (
  .reg [⟨(some 4), none, (.q (.mov (.t 0)))⟩,
    ⟨(some 5), none, (.ac (.callf 155 [(.t 4), (.fn 156)]))⟩,
    ⟨(some 3), none, (.q (.mov (.t 5)))⟩] [0, 3]) (
  .seq (
  .reg [⟨(some 6), none, (.q (.mov (.t 0)))⟩,
    ⟨(some 7), none, (.q (.len false (.t 6)))⟩,
    ⟨(some 8), none, (.q (.bin .leq 3 (.t 7) (.k (.int .i64 16))))⟩,
    ⟨(some 9), none, (.q (.mov (.t 8)))⟩,
    ⟨(some 10), (some (9, true)), (.q (.mov (.t 3)))⟩,
    ⟨(some 11), (some (9, true)), (.q (.un .not (.t 10)))⟩,
    ⟨(some 12), none, (.q (.pick (.t 9) (.t 11) (.k (.bool false))))⟩,
    ⟨(some 2), none, (.q (.mov (.t 12)))⟩] [2]) (
  .ret))),
  [.tmp 2], []⟩
noncomputable def g103 : HFn Tryz.prog := ⟨r103, fun K => wslow Tryz.prog K r103.code, fun _ _ hK => wslow_fits hK _ (by decide +kernel)⟩
theorem c103 : chkF Tryz.prog Tryz.f103 r103 = true := by decide +kernel

end Go.AM
