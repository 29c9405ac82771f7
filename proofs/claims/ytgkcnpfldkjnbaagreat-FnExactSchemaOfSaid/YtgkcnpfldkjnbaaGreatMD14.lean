import Derived.Test.YtgkcnpfldkjnbaaGreatMD13
/- The law FnExactSchemaOf answers true for every input: the row; no condition beyond the row's own. -/
namespace Go.Proofs.YtgkcnpfldkjnbaaGreat.fnExactSchemaOf
open Go Go.ChangeShapes Go.WideShapes Go.ChangeAt Go.RowKit Go.Proofs.QV
set_option linter.unusedVariables false
theorem over : Rows.fnExactSchemaOfRow.holds Tryz.pinned (OpenSpec.ofChange Rows.fnExactSchemaOfSpec) :=
 OpenClaim.holds_of_wide 4 Tryz.f4 rfl rfl rfl rfl rfl rfl rfl ⟨rfl, rfl, rfl, rfl, rfl⟩ rfl rfl rfl rfl rfl (by kernel_rfl) Tryz.func4 (by kernel_rfl)
  (of_decide_eq_true (by kernel_rfl)) (by unfold Func.isWrapper; first | (rw [if_pos (by decide +kernel)]; kernel_rfl) | (rw [if_neg (by decide +kernel)]; exact ⟨rfl, rfl⟩))
  (fun os started H enc _ => ja5 os started H enc)
theorem proved : Rows.FnExactSchemaOfSaid := over
#print axioms proved
end Go.Proofs.YtgkcnpfldkjnbaaGreat.fnExactSchemaOf
namespace Go.Proofs.YtgkcnpfldkjnbaaGreat
/-- The row, under a short name, for the claim. -/
theorem fnExactSchemaOf_holds : Rows.FnExactSchemaOfSaid := fnExactSchemaOf.proved
end Go.Proofs.YtgkcnpfldkjnbaaGreat
