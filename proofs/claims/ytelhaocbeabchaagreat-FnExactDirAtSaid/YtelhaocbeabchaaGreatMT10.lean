import Derived.Test.YtelhaocbeabchaaGreatMT9
/- The law FnExactDirAt answers true for every input: the row; no condition beyond the row's own. -/
namespace Go.Proofs.YtelhaocbeabchaaGreat.fnExactDirAt
open Go Go.ChangeShapes Go.WideShapes Go.ChangeAt Go.RowKit Go.Proofs.QV
set_option linter.unusedVariables false
theorem over : Rows.fnExactDirAtRow.holds Tryz.pinned (OpenSpec.ofChange Rows.fnExactDirAtSpec) :=
  OpenClaim.holds_of_wide 4 Tryz.f4 rfl rfl rfl rfl rfl rfl rfl ⟨rfl, rfl, rfl, rfl, rfl⟩ rfl rfl rfl rfl rfl (by kernel_rfl) Tryz.func4 (by kernel_rfl)
    (of_decide_eq_true (by kernel_rfl)) (by unfold Func.isWrapper; first | (rw [if_pos (by decide +kernel)]; kernel_rfl) | (rw [if_neg (by decide +kernel)]; exact ⟨rfl, rfl⟩))
    (fun os started H enc _ => lifted os started H enc)
theorem proved : Rows.FnExactDirAtSaid := over
#print axioms proved
end Go.Proofs.YtelhaocbeabchaaGreat.fnExactDirAt
namespace Go.Proofs.YtelhaocbeabchaaGreat
/-- The row, under a short name, for the claim. -/
theorem fnExactDirAt_holds : Rows.FnExactDirAtSaid := fnExactDirAt.proved
end Go.Proofs.YtelhaocbeabchaaGreat
