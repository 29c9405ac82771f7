/- The law FnExactIsLeaf answers true for every input: the row; no condition beyond the row's own. -/
import Derived.Test.YtciandfkncadgaaLaFnExactIsLeaf
namespace Go.Proofs.Ytciandfkncadgaa.fnExactIsLeaf
open Go Go.ChangeShapes Go.WideShapes Go.ChangeAt Go.RowKit Go.Proofs.YtciandfkncadgaaV
set_option linter.unusedVariables false
theorem over : Rows.fnExactIsLeafRow.holds Try.pinned (OpenSpec.ofChange Rows.fnExactIsLeafSpec) :=
  OpenClaim.holds_of_wide 9 Try.f9 rfl rfl rfl rfl rfl rfl rfl ⟨rfl, rfl, rfl, rfl, rfl⟩ rfl rfl rfl rfl rfl (by kernel_rfl) Try.func9 (by kernel_rfl)
    (of_decide_eq_true (by kernel_rfl)) (by unfold Func.isWrapper; first | (rw [if_pos (by decide +kernel)]; kernel_rfl) | (rw [if_neg (by decide +kernel)]; exact ⟨rfl, rfl⟩))
    (fun os started H enc _ => lifted os started H enc)
theorem proved : Rows.FnExactIsLeafSaid := over
#print axioms proved
end Go.Proofs.Ytciandfkncadgaa.fnExactIsLeaf
namespace Go.Proofs.Ytciandfkncadgaa
/-- The row, under a short name, for the claim. -/
theorem fnExactIsLeaf_holds : Rows.FnExactIsLeafSaid := fnExactIsLeaf.proved
end Go.Proofs.Ytciandfkncadgaa
