import Derived.Test.YtcpolmhblhhikaaGreatMU12
/- The law FnKinds answers true for every input: the row; no condition beyond the row's own. -/
namespace Go.Proofs.YtcpolmhblhhikaaGreat.fnKinds
open Go Go.ChangeShapes Go.WideShapes Go.ChangeAt Go.RowKit Go.Proofs.QV
set_option linter.unusedVariables false
theorem over : Rows.fnKindsRow.holds Tryz.pinned (OpenSpec.ofChange Rows.fnKindsSpec) :=
 OpenClaim.holds_of_wide 3 Tryz.f3 rfl rfl rfl rfl rfl rfl rfl ⟨rfl, rfl, rfl, rfl, rfl⟩ rfl rfl rfl rfl rfl (by kernel_rfl) Tryz.func3 (by kernel_rfl)
  (of_decide_eq_true (by kernel_rfl)) (by unfold Func.isWrapper; first | (rw [if_pos (by decide +kernel)]; kernel_rfl) | (rw [if_neg (by decide +kernel)]; exact ⟨rfl, rfl⟩))
  (fun os started H enc _ => jbG os started H enc)
theorem proved : Rows.FnKindsSaid := over
#print axioms proved
end Go.Proofs.YtcpolmhblhhikaaGreat.fnKinds
namespace Go.Proofs.YtcpolmhblhhikaaGreat
/-- The row, under a short name, for the claim. -/
theorem fnKinds_holds : Rows.FnKindsSaid := fnKinds.proved
end Go.Proofs.YtcpolmhblhhikaaGreat
