import Derived.Test.YthjfcobfjljkpaaGreatDoorMO12
import Derived.Test.YthjfcobfjljkpaaGreatDoorTie
import Derived.Test.YthjfcobfjljkpaaGreatDoorCards
import Derived.SevenTiedAt
/- The law FnExactOpText: the tied card. -/
namespace Go.Proofs.YthjfcobfjljkpaaGreatDoor
open Go
set_option maxRecDepth 100000
/-- The card, for the claim. -/
theorem fnExactOpText_holds : Rows.FnExactOpTextCardSaid :=
  Claim7.holds_tied_plain_at .later [] [.data, .pinned] true (true, "709900a3dd3bb74ae41d1becf30832239b254c1a4d97cbc65a972d63bca3fb83") false
    fnExactOpText.proved (fun _ h => by cases h) (by kernel_rfl) (fun _ h => by cases h) fnExactOpText_row_tie rfl ⟨rfl, rfl⟩ (by kernel_rfl) rfl
    (fun f fn hf hfn => by
      obtain rfl : f = 7 := Option.some.inj ((show Tryz.prog.funcNamed "loop.example/g00964/laws.FnExactOpText" = some 7 by kernel_rfl).symm.trans hf) |>.symm
      obtain rfl : fn = Tryz.f7 := (Option.some.inj (Tryz.func7.symm.trans hfn)).symm
      exact ⟨by kernel_rfl, fun j t ht => by
        rw [Tryz.params7] at ht
        have hm : t ∈ [72] := by simpa using Array.mem_of_getElem? ht
        have hall : ([72].all fun u => !Tryz.prog.wantsStandIn u) = true := by kernel_rfl
        exact (show Tryz.prog.wantsStandIn t = false by simpa using List.all_eq_true.1 hall t hm)⟩)
    (by kernel_rfl)
#print axioms fnExactOpText_holds
end Go.Proofs.YthjfcobfjljkpaaGreatDoor
