import Derived.Test.YthbcjkppdjpihaaGreatME14
/- The law FnJoinTold answers true for every input: the row; no condition beyond the row's own. -/
namespace Go.Proofs.YthbcjkppdjpihaaGreat.fnJoinTold
open Go Go.ChangeShapes Go.WideShapes Go.ChangeAt Go.RowKit Go.Proofs.QV
set_option linter.unusedVariables false
theorem over : Rows.fnJoinToldRow.holds Tryz.pinned (OpenSpec.ofChange Rows.fnJoinToldSpec) :=
 OpenClaim.holds_of_wide 3 Tryz.f3 rfl rfl rfl rfl rfl rfl rfl ⟨rfl, rfl, rfl, rfl, rfl⟩ rfl rfl rfl rfl rfl (by kernel_rfl) Tryz.func3 (by kernel_rfl)
  (of_decide_eq_true (by kernel_rfl)) (by unfold Func.isWrapper; first | (rw [if_pos (by decide +kernel)]; kernel_rfl) | (rw [if_neg (by decide +kernel)]; exact ⟨rfl, rfl⟩))
  (fun os started H enc _ => j9P os started H enc)
theorem proved : Rows.FnJoinToldSaid := over
#print axioms proved
end Go.Proofs.YthbcjkppdjpihaaGreat.fnJoinTold
namespace Go.Proofs.YthbcjkppdjpihaaGreat
/-- The row, under a short name, for the claim. -/
theorem fnJoinTold_holds : Rows.FnJoinToldSaid := fnJoinTold.proved
end Go.Proofs.YthbcjkppdjpihaaGreat
