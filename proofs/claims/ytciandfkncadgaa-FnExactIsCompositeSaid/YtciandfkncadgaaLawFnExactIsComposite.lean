/- The law FnExactIsComposite answers true for every input: the row; no condition beyond the row's own. -/
import Derived.Test.YtciandfkncadgaaLaFnExactIsComposite
namespace Go.Proofs.Ytciandfkncadgaa.fnExactIsComposite
open Go Go.ChangeShapes Go.WideShapes Go.ChangeAt Go.RowKit Go.Proofs.YtciandfkncadgaaV
set_option linter.unusedVariables false
theorem over : Rows.fnExactIsCompositeRow.holds Try.pinned (OpenSpec.ofChange Rows.fnExactIsCompositeSpec) :=
  OpenClaim.holds_of_wide 7 Try.f7 rfl rfl rfl rfl rfl rfl rfl ⟨rfl, rfl, rfl, rfl, rfl⟩ rfl rfl rfl rfl rfl (by kernel_rfl) Try.func7 (by kernel_rfl)
    (of_decide_eq_true (by kernel_rfl)) (by unfold Func.isWrapper; first | (rw [if_pos (by decide +kernel)]; kernel_rfl) | (rw [if_neg (by decide +kernel)]; exact ⟨rfl, rfl⟩))
    (fun os started H enc _ => lifted os started H enc)
theorem proved : Rows.FnExactIsCompositeSaid := over
#print axioms proved
end Go.Proofs.Ytciandfkncadgaa.fnExactIsComposite
namespace Go.Proofs.Ytciandfkncadgaa
/-- The row, under a short name, for the claim. -/
theorem fnExactIsComposite_holds : Rows.FnExactIsCompositeSaid := fnExactIsComposite.proved
end Go.Proofs.Ytciandfkncadgaa
