/- The law FnExactSameSchema answers true for every input: the row; no condition beyond the row's own. -/
import Derived.Test.YtciandfkncadgaaLaFnExactSameSchema
namespace Go.Proofs.Ytciandfkncadgaa.fnExactSameSchema
open Go Go.ChangeShapes Go.WideShapes Go.ChangeAt Go.RowKit Go.Proofs.YtciandfkncadgaaV
set_option linter.unusedVariables false
theorem over : Rows.fnExactSameSchemaRow.holds Try.pinned (OpenSpec.ofChange Rows.fnExactSameSchemaSpec) :=
  OpenClaim.holds_of_wide 13 Try.f13 rfl rfl rfl rfl rfl rfl rfl ⟨rfl, rfl, rfl, rfl, rfl⟩ rfl rfl rfl rfl rfl (by kernel_rfl) Try.func13 (by kernel_rfl)
    (of_decide_eq_true (by kernel_rfl)) (by unfold Func.isWrapper; first | (rw [if_pos (by decide +kernel)]; kernel_rfl) | (rw [if_neg (by decide +kernel)]; exact ⟨rfl, rfl⟩))
    (fun os started H enc _ => lifted os started H enc)
theorem proved : Rows.FnExactSameSchemaSaid := over
#print axioms proved
end Go.Proofs.Ytciandfkncadgaa.fnExactSameSchema
namespace Go.Proofs.Ytciandfkncadgaa
/-- The row, under a short name, for the claim. -/
theorem fnExactSameSchema_holds : Rows.FnExactSameSchemaSaid := fnExactSameSchema.proved
end Go.Proofs.Ytciandfkncadgaa
