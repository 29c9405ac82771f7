/- The law FnExactTypeAt answers true for every input: the row; no condition beyond the row's own. -/
import Derived.Test.YtciandfkncadgaaLaFnExactTypeAt
namespace Go.Proofs.Ytciandfkncadgaa.fnExactTypeAt
open Go Go.ChangeShapes Go.WideShapes Go.ChangeAt Go.RowKit Go.Proofs.YtciandfkncadgaaV
set_option linter.unusedVariables false
theorem over : Rows.fnExactTypeAtRow.holds Try.pinned (OpenSpec.ofChange Rows.fnExactTypeAtSpec) :=
  OpenClaim.holds_of_wide 5 Try.f5 rfl rfl rfl rfl rfl rfl rfl ⟨rfl, rfl, rfl, rfl, rfl⟩ rfl rfl rfl rfl rfl (by kernel_rfl) Try.func5 (by kernel_rfl)
    (of_decide_eq_true (by kernel_rfl)) (by unfold Func.isWrapper; first | (rw [if_pos (by decide +kernel)]; kernel_rfl) | (rw [if_neg (by decide +kernel)]; exact ⟨rfl, rfl⟩))
    (fun os started H enc _ => lifted os started H enc)
theorem proved : Rows.FnExactTypeAtSaid := over
#print axioms proved
end Go.Proofs.Ytciandfkncadgaa.fnExactTypeAt
namespace Go.Proofs.Ytciandfkncadgaa
/-- The row, under a short name, for the claim. -/
theorem fnExactTypeAt_holds : Rows.FnExactTypeAtSaid := fnExactTypeAt.proved
end Go.Proofs.Ytciandfkncadgaa
