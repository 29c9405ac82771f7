import Derived.Test.YtljggmbgbnmapaaDoorMJ10
import Derived.Test.YtljggmbgbnmapaaDoorTie
import Derived.Test.YtljggmbgbnmapaaDoorCards
import Derived.SevenTiedAt
/- The law FnExactJsonOk: the tied card. -/
namespace Go.Proofs.YtljggmbgbnmapaaDoor
open Go
set_option maxRecDepth 100000
/-- The card, for the claim. -/
theorem fnExactJsonOk_holds : Rows.FnExactJsonOkCardSaid :=
  Claim7.holds_tied_plain_at .later [] [.data, .pinned] true (true, "91a60ba5f46441482bd215030c5c78f296832f8e2e54f62a0cb4036b455ce037") false
    fnExactJsonOk.proved (fun _ h => by cases h) (by kernel_rfl) (fun _ h => by cases h) fnExactJsonOk_row_tie rfl ⟨rfl, rfl⟩ (by kernel_rfl) rfl
    (fun f fn hf hfn => by
      obtain rfl : f = 3 := Option.some.inj ((show Tryd.prog.funcNamed "loop.example/g00964/laws.FnExactJsonOk" = some 3 by kernel_rfl).symm.trans hf) |>.symm
      obtain rfl : fn = Tryd.f3 := (Option.some.inj (Tryd.func3.symm.trans hfn)).symm
      exact ⟨by kernel_rfl, fun j t ht => by
        rw [Tryd.params3] at ht
        have hm : t ∈ [25] := by simpa using Array.mem_of_getElem? ht
        have hall : ([25].all fun u => !Tryd.prog.wantsStandIn u) = true := by kernel_rfl
        exact (show Tryd.prog.wantsStandIn t = false by simpa using List.all_eq_true.1 hall t hm)⟩)
    (by kernel_rfl)
#print axioms fnExactJsonOk_holds
end Go.Proofs.YtljggmbgbnmapaaDoor
