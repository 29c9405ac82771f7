/- The law FnExactInCycle answers true for every input: the row; no condition beyond the row's own. -/
import Derived.Test.YtciandfkncadgaaLaFnExactInCycle
namespace Go.Proofs.Ytciandfkncadgaa.fnExactInCycle
open Go Go.ChangeShapes Go.WideShapes Go.ChangeAt Go.RowKit Go.Proofs.YtciandfkncadgaaV
set_option linter.unusedVariables false
theorem over : Rows.fnExactInCycleRow.holds Try.pinned (OpenSpec.ofChange Rows.fnExactInCycleSpec) :=
  OpenClaim.holds_of_wide 11 Try.f11 rfl rfl rfl rfl rfl rfl rfl ⟨rfl, rfl, rfl, rfl, rfl⟩ rfl rfl rfl rfl rfl (by kernel_rfl) Try.func11 (by kernel_rfl)
    (of_decide_eq_true (by kernel_rfl)) (by unfold Func.isWrapper; first | (rw [if_pos (by decide +kernel)]; kernel_rfl) | (rw [if_neg (by decide +kernel)]; exact ⟨rfl, rfl⟩))
    (fun os started H enc _ => lifted os started H enc)
theorem proved : Rows.FnExactInCycleSaid := over
#print axioms proved
end Go.Proofs.Ytciandfkncadgaa.fnExactInCycle
namespace Go.Proofs.Ytciandfkncadgaa
/-- The row, under a short name, for the claim. -/
theorem fnExactInCycle_holds : Rows.FnExactInCycleSaid := fnExactInCycle.proved
end Go.Proofs.Ytciandfkncadgaa
