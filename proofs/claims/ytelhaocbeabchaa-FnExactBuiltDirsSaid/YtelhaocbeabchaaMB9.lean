import Derived.Test.YtelhaocbeabchaaMB8
/- The law FnExactBuiltDirs answers true for every input: the row; no condition beyond the row's own. -/
namespace Go.Proofs.Ytelhaocbeabchaa.fnExactBuiltDirs
open Go Go.ChangeShapes Go.WideShapes Go.ChangeAt Go.RowKit Go.Proofs.QV
set_option linter.unusedVariables false
theorem over : Rows.fnExactBuiltDirsRow.holds Try.pinned (OpenSpec.ofChange Rows.fnExactBuiltDirsSpec) :=
  OpenClaim.holds_of_wide 5 Try.f5 rfl rfl rfl rfl rfl rfl rfl ⟨rfl, rfl, rfl, rfl, rfl⟩ rfl rfl rfl rfl rfl (by kernel_rfl) Try.func5 (by kernel_rfl)
    (of_decide_eq_true (by kernel_rfl)) (by unfold Func.isWrapper; first | (rw [if_pos (by decide +kernel)]; kernel_rfl) | (rw [if_neg (by decide +kernel)]; exact ⟨rfl, rfl⟩))
    (fun os started H enc _ => lifted os started H enc)
theorem proved : Rows.FnExactBuiltDirsSaid := over
#print axioms proved
end Go.Proofs.Ytelhaocbeabchaa.fnExactBuiltDirs
namespace Go.Proofs.Ytelhaocbeabchaa
/-- The row, under a short name, for the claim. -/
theorem fnExactBuiltDirs_holds : Rows.FnExactBuiltDirsSaid := fnExactBuiltDirs.proved
end Go.Proofs.Ytelhaocbeabchaa
