import Derived.Test.YtpkmlogclnjijaaGreatAm32
import Derived.Test.YtpkmlogclnjijaaGreatProg
import Derived.WalkKit
import Derived.Defers
import Derived.Recover
import Derived.Tactics
import Derived.Tactics2
set_option linter.unusedVariables false
namespace Go.AM.CatchT
open Go.Proofs
open Go.RowKit

theorem catch_idle (p q : Addr) (w : World) :
    CallsD Tryz.prog 218 #[.pointer (some p), .pointer (some q)] .returning w fun e u' w' => e = .returned (.tuple #[]) ∧ u' = .returning ∧ w' = w := by
  refine callsD_of_wpS Tryz.func218 rfl fun c₀ cs hu => ?_
  have hnil : ∀ w : World, (binOp BinOp.eql 20 .nilIface .nilIface).run Tryz.prog w = .ok (.bool true) w := fun _ => by kernel_rfl
  apply wpS_seq
  apply wpS_region
  simp [wpOpsS, go_sem, recoverD, hu, Tryz.ntmps218, Exit.thenS]
  refine wpS_of_wp ?_
  refine wp_block ?_
  go_wp2
  cases c₀
  simp_all [bodyPostS, results, Tryz.results218]

set_option maxRecDepth 20000 in
theorem catch_panicking (n m : Nat) (a b : Int) (w : World) (h1 : w.heap[n]? = some (.cells #[.int .i64 0, .int .i64 0] 268)) (h2 : w.heap[m]? = some (.cells #[.bool false] 4)) (hnm : n ≠ m) :
    CallsD Tryz.prog 218 #[.pointer (some ⟨n, 0, none⟩), .pointer (some ⟨m, 0, none⟩)] (.panicking [{ v := .iface 292 (.agg #[.int .i64 a, .int .i64 b]), recovered := false }]) w fun e u' w' =>
      e = .returned (.tuple #[]) ∧ u' = .panicking [{ v := .iface 292 (.agg #[.int .i64 a, .int .i64 b]), recovered := true }] ∧
      w' = (((w.setCell ⟨n, 0, none⟩ (.int .i64 a)).setCell ⟨n, 1, none⟩ (.int .i64 b)).setCell ⟨m, 0, none⟩ (.bool true)).alloc (.cells #[.int .i64 a, .int .i64 b] 292) := by
  refine callsD_of_wpS Tryz.func218 rfl fun c₀ cs hu => ?_
  have hne : ∀ w : World, (binOp BinOp.eql 20 (.iface 292 (.agg #[.int .i64 a, .int .i64 b])) .nilIface).run Tryz.prog w = .ok (.bool false) w := fun _ => by kernel_rfl
  have hta : ∀ w : World, (Instr.typeAssert (.iface 292 (.agg #[.int .i64 a, .int .i64 b])) 20 292 true).run Tryz.prog w = .ok (.tuple #[.agg #[.int .i64 a, .int .i64 b], .bool true]) w := fun _ => by kernel_rfl
  have l1 : n < w.heap.size := (Array.getElem?_eq_some_iff.1 h1).1
  have l2 : m < w.heap.size := (Array.getElem?_eq_some_iff.1 h2).1
  have g1 : (w.alloc (.cells #[.int .i64 a, .int .i64 b] 292)).heap[n]? = some (.cells #[.int .i64 0, .int .i64 0] 268) := by
    rw [World.alloc, Array.getElem?_push, if_neg (by omega)]; exact h1
  have g2 : (w.alloc (.cells #[.int .i64 a, .int .i64 b] 292)).heap[m]? = some (.cells #[.bool false] 4) := by
    rw [World.alloc, Array.getElem?_push, if_neg (by omega)]; exact h2
  have c0 : (w.alloc (.cells #[.int .i64 a, .int .i64 b] 292)).cell? ⟨n, 0, none⟩ = some (.int .i64 0) := by simp [World.cell?, g1]
  have c1 : (w.alloc (.cells #[.int .i64 a, .int .i64 b] 292)).cell? ⟨n, 1, none⟩ = some (.int .i64 0) := by simp [World.cell?, g1]
  have c2 : (w.alloc (.cells #[.int .i64 a, .int .i64 b] 292)).cell? ⟨m, 0, none⟩ = some (.bool false) := by simp [World.cell?, g2]
  have f0 : (w.alloc (.cells #[.int .i64 a, .int .i64 b] 292)).frozen? ⟨n, 0, none⟩ = false := by simp [World.frozen?, g1]
  have f1 : (w.alloc (.cells #[.int .i64 a, .int .i64 b] 292)).frozen? ⟨n, 1, none⟩ = false := by simp [World.frozen?, g1]
  have f2 : (w.alloc (.cells #[.int .i64 a, .int .i64 b] 292)).frozen? ⟨m, 0, none⟩ = false := by simp [World.frozen?, g2]
  have d0 : w.cell? ⟨n, 0, none⟩ = some (.int .i64 0) := by simp [World.cell?, h1]
  have d1 : w.cell? ⟨n, 1, none⟩ = some (.int .i64 0) := by simp [World.cell?, h1]
  have d2 : w.cell? ⟨m, 0, none⟩ = some (.bool false) := by simp [World.cell?, h2]
  have e0 : w.frozen? ⟨n, 0, none⟩ = false := by simp [World.frozen?, h1]
  have e1 : w.frozen? ⟨n, 1, none⟩ = false := by simp [World.frozen?, h1]
  have e2 : w.frozen? ⟨m, 0, none⟩ = false := by simp [World.frozen?, h2]
  have hnm' : m ≠ n := Ne.symm hnm
  have s1 : n ≠ w.heap.size := by omega
  have s2 : m ≠ w.heap.size := by omega
  apply wpS_seq
  apply wpS_region
  simp [wpOpsS, go_sem, recoverD, hu, Tryz.ntmps218, Exit.thenS]
  refine wpS_of_wp ?_
  refine wp_block ?_
  change Code.wp _ _ _ { tmps := #[.pointer (some ⟨n, 0, none⟩), .pointer (some ⟨m, 0, none⟩), undef, undef, undef, .iface 292 (.agg #[.int .i64 a, .int .i64 b]), undef, undef, undef, undef, undef, undef, undef], defers := [] } w
  go_wp2
  cases c₀
  simp [bodyPostS, results, Tryz.results218]

theorem catch_nil (w : World) :
    Calls Tryz.prog 197 #[.nilFunc] w fun e w' => e = .returned (.tuple #[.agg #[.int .i64 0, .int .i64 0], .bool false]) ∧ w' = ((w.alloc (.cells #[.int .i64 0, .int .i64 0] 268)).alloc (.cells #[.bool false] 4)) := by
  have hmf : ∀ (fn : Fn) (first cap : Array Value) (w : World), (Instr.makeFunc fn first cap).run Tryz.prog w = .ok (.func fn first cap) w := fun _ _ _ _ => rfl
  have hnil : ∀ w : World, (binOp BinOp.eql 1 .nilFunc .nilFunc).run Tryz.prog w = .ok (.bool true) w := fun _ => by kernel_rfl
  go_enter_defers Tryz.func197, Tryz.ntmps197
  go_wp2
  simp [bodyPostD, Leaves, results, Tryz.results197, go_sem]

theorem catch_call (g : Nat) (x y : Array Value) (w : World) (hen : ∀ w, (callFunc g (x ++ y)).run Tryz.prog w = .ok (.enter g (x ++ y)) w) (R : Ending → World → Prop)
    (hcall : Calls Tryz.prog g (x ++ y) ((w.alloc (.cells #[.int .i64 0, .int .i64 0] 268)).alloc (.cells #[.bool false] 4)) R)
    (hR : ∀ e w', R e w' → (w'.heap[w.heap.size]? = some (.cells #[.int .i64 0, .int .i64 0] 268) ∧ w'.heap[w.heap.size + 1]? = some (.cells #[.bool false] 4)) ∧
      ((∃ v, e = .returned v) ∨ ∃ a b, e = .panicked [{ v := .iface 292 (.agg #[.int .i64 a, .int .i64 b]), recovered := false }])) :
    Calls Tryz.prog 197 #[.func (.func g) x y] w fun e w' =>
      (∃ v w1, R (.returned v) w1 ∧ e = .returned (.tuple #[.agg #[.int .i64 0, .int .i64 0], .bool false]) ∧
        w' = ((w1.setCell ⟨w.heap.size, 0, none⟩ (.int .i64 0)).setCell ⟨w.heap.size, 1, none⟩ (.int .i64 0)).setCell ⟨w.heap.size + 1, 0, none⟩ (.bool false)) ∨
      (∃ a b w1, R (.panicked [{ v := .iface 292 (.agg #[.int .i64 a, .int .i64 b]), recovered := false }]) w1 ∧ e = .returned (.tuple #[.agg #[.int .i64 a, .int .i64 b], .bool true]) ∧
        w' = (((w1.setCell ⟨w.heap.size, 0, none⟩ (.int .i64 a)).setCell ⟨w.heap.size, 1, none⟩ (.int .i64 b)).setCell ⟨w.heap.size + 1, 0, none⟩ (.bool true)).alloc (.cells #[.int .i64 a, .int .i64 b] 292)) := by
  have hmf : ∀ (fn : Fn) (first cap : Array Value) (w : World), (Instr.makeFunc fn first cap).run Tryz.prog w = .ok (.func fn first cap) w := fun _ _ _ _ => rfl
  have hnil : ∀ w : World, (binOp BinOp.eql 1 (.func (.func g) x y) .nilFunc).run Tryz.prog w = .ok (.bool false) w := fun _ => by kernel_rfl
  go_enter_defers Tryz.func197, Tryz.ntmps197
  go_wp2
  refine hcall.mono ?_
  rintro e w' h
  obtain ⟨⟨h1, h2⟩, h3⟩ := hR e w' h
  have c0 : w'.cell? ⟨w.heap.size, 0, none⟩ = some (.int .i64 0) := by simp [World.cell?, h1]
  have c1 : w'.cell? ⟨w.heap.size, 1, none⟩ = some (.int .i64 0) := by simp [World.cell?, h1]
  have c2 : w'.cell? ⟨w.heap.size + 1, 0, none⟩ = some (.bool false) := by simp [World.cell?, h2]
  have f0 : w'.frozen? ⟨w.heap.size, 0, none⟩ = false := by simp [World.frozen?, h1]
  have f1 : w'.frozen? ⟨w.heap.size, 1, none⟩ = false := by simp [World.frozen?, h1]
  have f2 : w'.frozen? ⟨w.heap.size + 1, 0, none⟩ = false := by simp [World.frozen?, h2]
  rcases h3 with ⟨v, rfl⟩ | ⟨a, b, rfl⟩
  · go_wp2
    refine leaves_cons (f := 218) (args := #[.pointer (some ⟨w.heap.size, 0, none⟩), .pointer (some ⟨w.heap.size + 1, 0, none⟩)]) (by simp) (by simp [go_sem]) ?_
    refine (catch_idle ⟨w.heap.size, 0, none⟩ ⟨w.heap.size + 1, 0, none⟩ _).mono ?_
    rintro e u' w'' ⟨rfl, rfl, rfl⟩
    refine ⟨.tuple #[.agg #[.int .i64 0, .int .i64 0], .bool false], ?_, .inl ⟨v, w', h, rfl, rfl⟩⟩
    obtain ⟨W1, hW1⟩ : ∃ W1, W1 = ((w'.setCell ⟨w.heap.size, 0, none⟩ (.int .i64 0)).setCell ⟨w.heap.size, 1, none⟩ (.int .i64 0)).setCell ⟨w.heap.size + 1, 0, none⟩ (.bool false) := ⟨_, rfl⟩
    have k1 : W1.heap[w.heap.size]? = some (.cells #[.int .i64 0, .int .i64 0] 268) := by rw [hW1]; simp [World.setCell, Array.getElem?_modify, h1]
    have k2 : W1.heap[w.heap.size + 1]? = some (.cells #[.bool false] 4) := by rw [hW1]; simp [World.setCell, Array.getElem?_modify, h2]
    have q0 : W1.cell? ⟨w.heap.size, 0, none⟩ = some (.int .i64 0) := by simp [World.cell?, k1]
    have q1 : W1.cell? ⟨w.heap.size, 1, none⟩ = some (.int .i64 0) := by simp [World.cell?, k1]
    have q2 : W1.cell? ⟨w.heap.size + 1, 0, none⟩ = some (.bool false) := by simp [World.cell?, k2]
    rw [← hW1]
    simp [results, Tryz.results197, go_sem, q0, q1, q2]
  · dsimp only
    refine leaves_cons (f := 218) (args := #[.pointer (some ⟨w.heap.size, 0, none⟩), .pointer (some ⟨w.heap.size + 1, 0, none⟩)]) (by simp) (by simp [go_sem]) ?_
    refine (catch_panicking w.heap.size (w.heap.size + 1) a b w' h1 h2 (by omega)).mono ?_
    rintro e u' w'' ⟨rfl, rfl, rfl⟩
    refine ⟨.tuple #[.agg #[.int .i64 a, .int .i64 b], .bool true], ?_, .inr ⟨a, b, w', h, rfl, rfl⟩⟩
    obtain ⟨W1, hW1⟩ : ∃ W1, W1 = (((w'.setCell ⟨w.heap.size, 0, none⟩ (.int .i64 a)).setCell ⟨w.heap.size, 1, none⟩ (.int .i64 b)).setCell ⟨w.heap.size + 1, 0, none⟩ (.bool true)).alloc (.cells #[.int .i64 a, .int .i64 b] 292) := ⟨_, rfl⟩
    have l1 : w.heap.size < w'.heap.size := (Array.getElem?_eq_some_iff.1 h1).1
    have l2 : w.heap.size + 1 < w'.heap.size := (Array.getElem?_eq_some_iff.1 h2).1
    have k1 : W1.heap[w.heap.size]? = some (.cells #[.int .i64 a, .int .i64 b] 268) := by
      rw [hW1, World.alloc, Array.getElem?_push, if_neg (by simp [World.setCell]; omega)]; simp [World.setCell, Array.getElem?_modify, h1]
    have k2 : W1.heap[w.heap.size + 1]? = some (.cells #[.bool true] 4) := by
      rw [hW1, World.alloc, Array.getElem?_push, if_neg (by simp [World.setCell]; omega)]; simp [World.setCell, Array.getElem?_modify, h2]
    have q0 : W1.cell? ⟨w.heap.size, 0, none⟩ = some (.int .i64 a) := by simp [World.cell?, k1]
    have q1 : W1.cell? ⟨w.heap.size, 1, none⟩ = some (.int .i64 b) := by simp [World.cell?, k1]
    have q2 : W1.cell? ⟨w.heap.size + 1, 0, none⟩ = some (.bool true) := by simp [World.cell?, k2]
    rw [← hW1]
    simp [results, Tryz.results197, go_sem, q0, q1, q2]
end Go.AM.CatchT
