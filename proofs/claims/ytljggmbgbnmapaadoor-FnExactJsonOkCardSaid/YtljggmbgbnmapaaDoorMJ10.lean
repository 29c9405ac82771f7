import Derived.Test.YtljggmbgbnmapaaDoorMJ9
/- The law FnExactJsonOk answers true for every input that its row lists the tables for: the row. -/
namespace Go.Proofs.YtljggmbgbnmapaaDoor.fnExactJsonOk
open Go Go.ChangeShapes Go.WideShapes Go.ChangeAt Go.RowKit Go.Proofs.YtljggmbgbnmapaaDoorV
set_option linter.unusedVariables false
theorem proved : Rows.FnExactJsonOkSaid :=
  OpenClaim.holds_of_wide 3 Tryd.f3 rfl rfl rfl rfl rfl rfl rfl ⟨rfl, rfl, rfl, rfl, rfl⟩ rfl rfl rfl rfl rfl (by kernel_rfl) Tryd.func3 (by kernel_rfl)
    (of_decide_eq_true (by kernel_rfl)) (by unfold Func.isWrapper; first | (rw [if_pos (by decide +kernel)]; kernel_rfl) | (rw [if_neg (by decide +kernel)]; exact ⟨rfl, rfl⟩))
    (fun os started H enc _ => lifted os started H enc)
#print axioms proved
end Go.Proofs.YtljggmbgbnmapaaDoor.fnExactJsonOk
