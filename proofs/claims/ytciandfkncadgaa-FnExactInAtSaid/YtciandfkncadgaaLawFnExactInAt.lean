/- The law FnExactInAt answers true for every input: the row; no condition beyond the row's own. -/
import Derived.Test.YtciandfkncadgaaLaFnExactInAt
namespace Go.Proofs.Ytciandfkncadgaa.fnExactInAt
open Go Go.ChangeShapes Go.WideShapes Go.ChangeAt Go.RowKit Go.Proofs.YtciandfkncadgaaV
set_option linter.unusedVariables false
theorem over : Rows.fnExactInAtRow.holds Try.pinned (OpenSpec.ofChange Rows.fnExactInAtSpec) :=
  OpenClaim.holds_of_wide 3 Try.f3 rfl rfl rfl rfl rfl rfl rfl ⟨rfl, rfl, rfl, rfl, rfl⟩ rfl rfl rfl rfl rfl (by kernel_rfl) Try.func3 (by kernel_rfl)
    (of_decide_eq_true (by kernel_rfl)) (by unfold Func.isWrapper; first | (rw [if_pos (by decide +kernel)]; kernel_rfl) | (rw [if_neg (by decide +kernel)]; exact ⟨rfl, rfl⟩))
    (fun os started H enc _ => lifted os started H enc)
theorem proved : Rows.FnExactInAtSaid := over
#print axioms proved
end Go.Proofs.Ytciandfkncadgaa.fnExactInAt
namespace Go.Proofs.Ytciandfkncadgaa
/-- The row, under a short name, for the claim. -/
theorem fnExactInAt_holds : Rows.FnExactInAtSaid := fnExactInAt.proved
end Go.Proofs.Ytciandfkncadgaa
