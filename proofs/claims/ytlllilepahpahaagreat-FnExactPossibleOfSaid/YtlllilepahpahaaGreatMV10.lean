import Derived.Test.YtlllilepahpahaaGreatMV9
/- The law FnExactPossibleOf answers true for every input: the row; no condition beyond the row's own. -/
namespace Go.Proofs.YtlllilepahpahaaGreat.fnExactPossibleOf
open Go Go.ChangeShapes Go.WideShapes Go.ChangeAt Go.RowKit Go.Proofs.QV
set_option linter.unusedVariables false
theorem over : Rows.fnExactPossibleOfRow.holds Tryz.pinned (OpenSpec.ofChange Rows.fnExactPossibleOfSpec) :=
  OpenClaim.holds_of_wide 5 Tryz.f5 rfl rfl rfl rfl rfl rfl rfl ⟨rfl, rfl, rfl, rfl, rfl⟩ rfl rfl rfl rfl rfl (by kernel_rfl) Tryz.func5 (by kernel_rfl)
    (of_decide_eq_true (by kernel_rfl)) (by unfold Func.isWrapper; first | (rw [if_pos (by decide +kernel)]; kernel_rfl) | (rw [if_neg (by decide +kernel)]; exact ⟨rfl, rfl⟩))
    (fun os started H enc _ => lifted os started H enc)
theorem proved : Rows.FnExactPossibleOfSaid := over
#print axioms proved
end Go.Proofs.YtlllilepahpahaaGreat.fnExactPossibleOf
namespace Go.Proofs.YtlllilepahpahaaGreat
/-- The row, under a short name, for the claim. -/
theorem fnExactPossibleOf_holds : Rows.FnExactPossibleOfSaid := fnExactPossibleOf.proved
end Go.Proofs.YtlllilepahpahaaGreat
