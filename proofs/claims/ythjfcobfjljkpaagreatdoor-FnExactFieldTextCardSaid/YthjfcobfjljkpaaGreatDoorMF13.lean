import Derived.Test.YthjfcobfjljkpaaGreatDoorMF12
import Derived.Test.YthjfcobfjljkpaaGreatDoorTie
import Derived.Test.YthjfcobfjljkpaaGreatDoorCards
import Derived.SevenTiedAt
/- The law FnExactFieldText: the tied card. -/
namespace Go.Proofs.YthjfcobfjljkpaaGreatDoor
open Go
set_option maxRecDepth 100000
/-- The card, for the claim. -/
theorem fnExactFieldText_holds : Rows.FnExactFieldTextCardSaid :=
  Claim7.holds_tied_plain_at .later [] [.data, .pinned] true (true, "709900a3dd3bb74ae41d1becf30832239b254c1a4d97cbc65a972d63bca3fb83") false
    fnExactFieldText.proved (fun _ h => by cases h) (by kernel_rfl) (fun _ h => by cases h) fnExactFieldText_row_tie rfl ⟨rfl, rfl⟩ (by kernel_rfl) rfl
    (fun f fn hf hfn => by
      obtain rfl : f = 6 := Option.some.inj ((show Tryz.prog.funcNamed "loop.example/g00964/laws.FnExactFieldText" = some 6 by kernel_rfl).symm.trans hf) |>.symm
      obtain rfl : fn = Tryz.f6 := (Option.some.inj (Tryz.func6.symm.trans hfn)).symm
      exact ⟨by kernel_rfl, fun j t ht => by
        rw [Tryz.params6] at ht
        have hm : t ∈ [61] := by simpa using Array.mem_of_getElem? ht
        have hall : ([61].all fun u => !Tryz.prog.wantsStandIn u) = true := by kernel_rfl
        exact (show Tryz.prog.wantsStandIn t = false by simpa using List.all_eq_true.1 hall t hm)⟩)
    (by kernel_rfl)
#print axioms fnExactFieldText_holds
end Go.Proofs.YthjfcobfjljkpaaGreatDoor
