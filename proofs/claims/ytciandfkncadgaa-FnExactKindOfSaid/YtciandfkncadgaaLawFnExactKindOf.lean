/- The law FnExactKindOf answers true for every input: the row; no condition beyond the row's own. -/
import Derived.Test.YtciandfkncadgaaLaFnExactKindOf
namespace Go.Proofs.Ytciandfkncadgaa.fnExactKindOf
open Go Go.ChangeShapes Go.WideShapes Go.ChangeAt Go.RowKit Go.Proofs.YtciandfkncadgaaV
set_option linter.unusedVariables false
theorem over : Rows.fnExactKindOfRow.holds Try.pinned (OpenSpec.ofChange Rows.fnExactKindOfSpec) :=
  OpenClaim.holds_of_wide 6 Try.f6 rfl rfl rfl rfl rfl rfl rfl ⟨rfl, rfl, rfl, rfl, rfl⟩ rfl rfl rfl rfl rfl (by kernel_rfl) Try.func6 (by kernel_rfl)
    (of_decide_eq_true (by kernel_rfl)) (by unfold Func.isWrapper; first | (rw [if_pos (by decide +kernel)]; kernel_rfl) | (rw [if_neg (by decide +kernel)]; exact ⟨rfl, rfl⟩))
    (fun os started H enc _ => lifted os started H enc)
theorem proved : Rows.FnExactKindOfSaid := over
#print axioms proved
end Go.Proofs.Ytciandfkncadgaa.fnExactKindOf
namespace Go.Proofs.Ytciandfkncadgaa
/-- The row, under a short name, for the claim. -/
theorem fnExactKindOf_holds : Rows.FnExactKindOfSaid := fnExactKindOf.proved
end Go.Proofs.Ytciandfkncadgaa
