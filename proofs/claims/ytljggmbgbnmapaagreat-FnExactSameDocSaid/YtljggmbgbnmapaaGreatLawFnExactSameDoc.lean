/- The law FnExactSameDoc answers true for every input: the row; no condition beyond the row's own. -/
import Derived.Test.YtljggmbgbnmapaaGreatLaFnExactSameDoc
namespace Go.Proofs.YtljggmbgbnmapaaGreat.fnExactSameDoc
open Go Go.ChangeShapes Go.WideShapes Go.ChangeAt Go.RowKit Go.Proofs.YtljggmbgbnmapaaGreatV
set_option linter.unusedVariables false
theorem over : Rows.fnExactSameDocRow.holds Tryz.pinned (OpenSpec.ofChange Rows.fnExactSameDocSpec) :=
  OpenClaim.holds_of_wide 3 Tryz.f3 rfl rfl rfl rfl rfl rfl rfl ⟨rfl, rfl, rfl, rfl, rfl⟩ rfl rfl rfl rfl rfl (by kernel_rfl) Tryz.func3 (by kernel_rfl)
    (of_decide_eq_true (by kernel_rfl)) (by unfold Func.isWrapper; first | (rw [if_pos (by decide +kernel)]; kernel_rfl) | (rw [if_neg (by decide +kernel)]; exact ⟨rfl, rfl⟩))
    (fun os started H enc _ => lifted os started H enc)
theorem proved : Rows.FnExactSameDocSaid := over
#print axioms proved
end Go.Proofs.YtljggmbgbnmapaaGreat.fnExactSameDoc
namespace Go.Proofs.YtljggmbgbnmapaaGreat
/-- The row, under a short name, for the claim. -/
theorem fnExactSameDoc_holds : Rows.FnExactSameDocSaid := fnExactSameDoc.proved
end Go.Proofs.YtljggmbgbnmapaaGreat
