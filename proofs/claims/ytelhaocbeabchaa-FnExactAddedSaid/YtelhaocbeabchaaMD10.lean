import Derived.Test.YtelhaocbeabchaaMD9
/- The law FnExactAdded answers true for every input: the row; no condition beyond the row's own. -/
namespace Go.Proofs.Ytelhaocbeabchaa.fnExactAdded
open Go Go.ChangeShapes Go.WideShapes Go.ChangeAt Go.RowKit Go.Proofs.QV
set_option linter.unusedVariables false
theorem over : Rows.fnExactAddedRow.holds Try.pinned (OpenSpec.ofChange Rows.fnExactAddedSpec) :=
  OpenClaim.holds_of_wide 6 Try.f6 rfl rfl rfl rfl rfl rfl rfl ⟨rfl, rfl, rfl, rfl, rfl⟩ rfl rfl rfl rfl rfl (by kernel_rfl) Try.func6 (by kernel_rfl)
    (of_decide_eq_true (by kernel_rfl)) (by unfold Func.isWrapper; first | (rw [if_pos (by decide +kernel)]; kernel_rfl) | (rw [if_neg (by decide +kernel)]; exact ⟨rfl, rfl⟩))
    (fun os started H enc _ => lifted os started H enc)
theorem proved : Rows.FnExactAddedSaid := over
#print axioms proved
end Go.Proofs.Ytelhaocbeabchaa.fnExactAdded
namespace Go.Proofs.Ytelhaocbeabchaa
/-- The row, under a short name, for the claim. -/
theorem fnExactAdded_holds : Rows.FnExactAddedSaid := fnExactAdded.proved
end Go.Proofs.Ytelhaocbeabchaa
