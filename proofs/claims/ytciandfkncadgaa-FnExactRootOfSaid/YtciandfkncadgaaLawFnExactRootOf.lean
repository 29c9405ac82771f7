/- The law FnExactRootOf answers true for every input: the row; no condition beyond the row's own. -/
import Derived.Test.YtciandfkncadgaaLaFnExactRootOf
namespace Go.Proofs.Ytciandfkncadgaa.fnExactRootOf
open Go Go.ChangeShapes Go.WideShapes Go.ChangeAt Go.RowKit Go.Proofs.YtciandfkncadgaaV
set_option linter.unusedVariables false
theorem over : Rows.fnExactRootOfRow.holds Try.pinned (OpenSpec.ofChange Rows.fnExactRootOfSpec) :=
  OpenClaim.holds_of_wide 4 Try.f4 rfl rfl rfl rfl rfl rfl rfl ⟨rfl, rfl, rfl, rfl, rfl⟩ rfl rfl rfl rfl rfl (by kernel_rfl) Try.func4 (by kernel_rfl)
    (of_decide_eq_true (by kernel_rfl)) (by unfold Func.isWrapper; first | (rw [if_pos (by decide +kernel)]; kernel_rfl) | (rw [if_neg (by decide +kernel)]; exact ⟨rfl, rfl⟩))
    (fun os started H enc _ => lifted os started H enc)
theorem proved : Rows.FnExactRootOfSaid := over
#print axioms proved
end Go.Proofs.Ytciandfkncadgaa.fnExactRootOf
namespace Go.Proofs.Ytciandfkncadgaa
/-- The row, under a short name, for the claim. -/
theorem fnExactRootOf_holds : Rows.FnExactRootOfSaid := fnExactRootOf.proved
end Go.Proofs.Ytciandfkncadgaa
