import Derived.Test.YtljggmbgbnmapaaDoorMS10
import Derived.Test.YtljggmbgbnmapaaDoorTie
import Derived.Test.YtljggmbgbnmapaaDoorCards
import Derived.SevenTiedAt
/- The law FnExactShortText: the tied card. -/
namespace Go.Proofs.YtljggmbgbnmapaaDoor
open Go
set_option maxRecDepth 100000
/-- The card, for the claim. -/
theorem fnExactShortText_holds : Rows.FnExactShortTextCardSaid :=
  Claim7.holds_tied_plain_at .later [] [.data, .pinned] true (true, "91a60ba5f46441482bd215030c5c78f296832f8e2e54f62a0cb4036b455ce037") false
    fnExactShortText.proved (fun _ h => by cases h) (by kernel_rfl) (fun _ h => by cases h) fnExactShortText_row_tie rfl ⟨rfl, rfl⟩ (by kernel_rfl) rfl
    (fun f fn hf hfn => by
      obtain rfl : f = 4 := Option.some.inj ((show Tryd.prog.funcNamed "loop.example/g00964/laws.FnExactShortText" = some 4 by kernel_rfl).symm.trans hf) |>.symm
      obtain rfl : fn = Tryd.f4 := (Option.some.inj (Tryd.func4.symm.trans hfn)).symm
      exact ⟨by kernel_rfl, fun j t ht => by
        rw [Tryd.params4] at ht
        have hm : t ∈ [34] := by simpa using Array.mem_of_getElem? ht
        have hall : ([34].all fun u => !Tryd.prog.wantsStandIn u) = true := by kernel_rfl
        exact (show Tryd.prog.wantsStandIn t = false by simpa using List.all_eq_true.1 hall t hm)⟩)
    (by kernel_rfl)
#print axioms fnExactShortText_holds
end Go.Proofs.YtljggmbgbnmapaaDoor
