import Derived.Test.YtelhaocbeabchaaGreatMS9
/- The law FnExactDefsIn answers true for every input: the row; no condition beyond the row's own. -/
namespace Go.Proofs.YtelhaocbeabchaaGreat.fnExactDefsIn
open Go Go.ChangeShapes Go.WideShapes Go.ChangeAt Go.RowKit Go.Proofs.QV
set_option linter.unusedVariables false
theorem over : Rows.fnExactDefsInRow.holds Tryz.pinned (OpenSpec.ofChange Rows.fnExactDefsInSpec) :=
  OpenClaim.holds_of_wide 6 Tryz.f6 rfl rfl rfl rfl rfl rfl rfl ⟨rfl, rfl, rfl, rfl, rfl⟩ rfl rfl rfl rfl rfl (by kernel_rfl) Tryz.func6 (by kernel_rfl)
    (of_decide_eq_true (by kernel_rfl)) (by unfold Func.isWrapper; first | (rw [if_pos (by decide +kernel)]; kernel_rfl) | (rw [if_neg (by decide +kernel)]; exact ⟨rfl, rfl⟩))
    (fun os started H enc _ => lifted os started H enc)
theorem proved : Rows.FnExactDefsInSaid := over
#print axioms proved
end Go.Proofs.YtelhaocbeabchaaGreat.fnExactDefsIn
namespace Go.Proofs.YtelhaocbeabchaaGreat
/-- The row, under a short name, for the claim. -/
theorem fnExactDefsIn_holds : Rows.FnExactDefsInSaid := fnExactDefsIn.proved
end Go.Proofs.YtelhaocbeabchaaGreat
