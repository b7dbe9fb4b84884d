import Derived.Test.YtpkmlogclnjijaaGreatT
namespace Go.AM
open Go.Proofs

noncomputable def tabT : Tr (HFn Tryz.prog) := (ofL tab).getD .nil

theorem tabT_eq : ofL tab = some tabT := by kernel_rfl

/-- The closed sentence is computed: it is true. -/
theorem run_true : hCall tabT specHC 100000 3 [] ⟨.nil, 0⟩ topV (fun _ _ => none) = some (.ret, [], ⟨.nil, 0⟩) := by kernel_rfl

end Go.AM
