/- The law FnExactIsOutput answers true for every input: the row; no condition beyond the row's own. -/
import Derived.Test.YtciandfkncadgaaLaFnExactIsOutput
namespace Go.Proofs.Ytciandfkncadgaa.fnExactIsOutput
open Go Go.ChangeShapes Go.WideShapes Go.ChangeAt Go.RowKit Go.Proofs.YtciandfkncadgaaV
set_option linter.unusedVariables false
theorem over : Rows.fnExactIsOutputRow.holds Try.pinned (OpenSpec.ofChange Rows.fnExactIsOutputSpec) :=
  OpenClaim.holds_of_wide 10 Try.f10 rfl rfl rfl rfl rfl rfl rfl ⟨rfl, rfl, rfl, rfl, rfl⟩ rfl rfl rfl rfl rfl (by kernel_rfl) Try.func10 (by kernel_rfl)
    (of_decide_eq_true (by kernel_rfl)) (by unfold Func.isWrapper; first | (rw [if_pos (by decide +kernel)]; kernel_rfl) | (rw [if_neg (by decide +kernel)]; exact ⟨rfl, rfl⟩))
    (fun os started H enc _ => lifted os started H enc)
theorem proved : Rows.FnExactIsOutputSaid := over
#print axioms proved
end Go.Proofs.Ytciandfkncadgaa.fnExactIsOutput
namespace Go.Proofs.Ytciandfkncadgaa
/-- The row, under a short name, for the claim. -/
theorem fnExactIsOutput_holds : Rows.FnExactIsOutputSaid := fnExactIsOutput.proved
end Go.Proofs.Ytciandfkncadgaa
