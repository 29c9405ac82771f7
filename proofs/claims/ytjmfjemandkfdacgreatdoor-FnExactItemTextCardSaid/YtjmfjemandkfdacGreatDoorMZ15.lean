import Derived.Test.YtjmfjemandkfdacGreatDoorMZ14
import Derived.Test.YtjmfjemandkfdacGreatDoorTie
import Derived.Test.YtjmfjemandkfdacGreatDoorCards
import Derived.SevenTiedAt
/- The law FnExactItemText: the tied card. -/
namespace Go.Proofs.YtjmfjemandkfdacGreatDoor
open Go
set_option maxRecDepth 100000
/-- The card, for the claim. -/
theorem fnExactItemText_holds : Rows.FnExactItemTextCardSaid :=
 Claim7.holds_tied_plain_at .later [] [.data, .pinned] true (true, "e636149624598710bbe984912292e0c1f3934b3f6691a090aff832fc8656c9e6") false
  fnExactItemText.proved (fun _ h => by cases h) (by kernel_rfl) (fun _ h => by cases h) fnExactItemText_row_tie rfl ⟨rfl, rfl⟩ (by kernel_rfl) rfl
  (fun f fn hf hfn => by
   obtain rfl : f = 3 := Option.some.inj ((show Tryz.prog.funcNamed "loop.example/g00964/laws.FnExactItemText" = some 3 by kernel_rfl).symm.trans hf) |>.symm
   obtain rfl : fn = Tryz.f3 := (Option.some.inj (Tryz.func3.symm.trans hfn)).symm
   exact ⟨by kernel_rfl, fun j t ht => by
    rw [Tryz.params3] at ht
    have hm : t ∈ [37] := by simpa using Array.mem_of_getElem? ht
    have hall : ([37].all fun u => !Tryz.prog.wantsStandIn u) = true := by kernel_rfl
    exact (show Tryz.prog.wantsStandIn t = false by simpa using List.all_eq_true.1 hall t hm)⟩)
  (by kernel_rfl)
#print axioms fnExactItemText_holds
end Go.Proofs.YtjmfjemandkfdacGreatDoor
