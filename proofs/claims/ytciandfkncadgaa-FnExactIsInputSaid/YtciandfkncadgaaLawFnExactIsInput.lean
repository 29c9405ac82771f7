/- The law FnExactIsInput answers true for every input: the row; no condition beyond the row's own. -/
import Derived.Test.YtciandfkncadgaaLaFnExactIsInput
namespace Go.Proofs.Ytciandfkncadgaa.fnExactIsInput
open Go Go.ChangeShapes Go.WideShapes Go.ChangeAt Go.RowKit Go.Proofs.YtciandfkncadgaaV
set_option linter.unusedVariables false
theorem over : Rows.fnExactIsInputRow.holds Try.pinned (OpenSpec.ofChange Rows.fnExactIsInputSpec) :=
  OpenClaim.holds_of_wide 8 Try.f8 rfl rfl rfl rfl rfl rfl rfl ⟨rfl, rfl, rfl, rfl, rfl⟩ rfl rfl rfl rfl rfl (by kernel_rfl) Try.func8 (by kernel_rfl)
    (of_decide_eq_true (by kernel_rfl)) (by unfold Func.isWrapper; first | (rw [if_pos (by decide +kernel)]; kernel_rfl) | (rw [if_neg (by decide +kernel)]; exact ⟨rfl, rfl⟩))
    (fun os started H enc _ => lifted os started H enc)
theorem proved : Rows.FnExactIsInputSaid := over
#print axioms proved
end Go.Proofs.Ytciandfkncadgaa.fnExactIsInput
namespace Go.Proofs.Ytciandfkncadgaa
/-- The row, under a short name, for the claim. -/
theorem fnExactIsInput_holds : Rows.FnExactIsInputSaid := fnExactIsInput.proved
end Go.Proofs.Ytciandfkncadgaa
