import Derived.Test.YtelhaocbeabchaaMJ8
/- The law FnExactJsonGet answers true for every input: the row; no condition beyond the row's own. -/
namespace Go.Proofs.Ytelhaocbeabchaa.fnExactJsonGet
open Go Go.ChangeShapes Go.WideShapes Go.ChangeAt Go.RowKit Go.Proofs.QV
set_option linter.unusedVariables false
theorem over : Rows.fnExactJsonGetRow.holds Try.pinned (OpenSpec.ofChange Rows.fnExactJsonGetSpec) :=
  OpenClaim.holds_of_wide 4 Try.f4 rfl rfl rfl rfl rfl rfl rfl ⟨rfl, rfl, rfl, rfl, rfl⟩ rfl rfl rfl rfl rfl (by kernel_rfl) Try.func4 (by kernel_rfl)
    (of_decide_eq_true (by kernel_rfl)) (by unfold Func.isWrapper; first | (rw [if_pos (by decide +kernel)]; kernel_rfl) | (rw [if_neg (by decide +kernel)]; exact ⟨rfl, rfl⟩))
    (fun os started H enc _ => lifted os started H enc)
theorem proved : Rows.FnExactJsonGetSaid := over
#print axioms proved
end Go.Proofs.Ytelhaocbeabchaa.fnExactJsonGet
namespace Go.Proofs.Ytelhaocbeabchaa
/-- The row, under a short name, for the claim. -/
theorem fnExactJsonGet_holds : Rows.FnExactJsonGetSaid := fnExactJsonGet.proved
end Go.Proofs.Ytelhaocbeabchaa
