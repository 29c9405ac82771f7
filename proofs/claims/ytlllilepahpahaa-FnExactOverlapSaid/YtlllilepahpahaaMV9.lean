import Derived.Test.YtlllilepahpahaaMV8
/- The law FnExactOverlap answers true for every input: the row; no condition beyond the row's own. -/
namespace Go.Proofs.Ytlllilepahpahaa.fnExactOverlap
open Go Go.ChangeShapes Go.WideShapes Go.ChangeAt Go.RowKit Go.Proofs.QV
set_option linter.unusedVariables false
theorem over : Rows.fnExactOverlapRow.holds Try.pinned (OpenSpec.ofChange Rows.fnExactOverlapSpec) :=
  OpenClaim.holds_of_wide 3 Try.f3 rfl rfl rfl rfl rfl rfl rfl ⟨rfl, rfl, rfl, rfl, rfl⟩ rfl rfl rfl rfl rfl (by kernel_rfl) Try.func3 (by kernel_rfl)
    (of_decide_eq_true (by kernel_rfl)) (by unfold Func.isWrapper; first | (rw [if_pos (by decide +kernel)]; kernel_rfl) | (rw [if_neg (by decide +kernel)]; exact ⟨rfl, rfl⟩))
    (fun os started H enc _ => lifted os started H enc)
theorem proved : Rows.FnExactOverlapSaid := over
#print axioms proved
end Go.Proofs.Ytlllilepahpahaa.fnExactOverlap
namespace Go.Proofs.Ytlllilepahpahaa
/-- The row, under a short name, for the claim. -/
theorem fnExactOverlap_holds : Rows.FnExactOverlapSaid := fnExactOverlap.proved
end Go.Proofs.Ytlllilepahpahaa
