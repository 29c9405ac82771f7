import Derived.Test.YtjmfjemandkfdabGreatDoorMI10
import Derived.Test.YtjmfjemandkfdabGreatDoorTie
import Derived.Test.YtjmfjemandkfdabGreatDoorCards
import Derived.SevenTiedAt
/- The law FnExactFits: the tied card. -/
namespace Go.Proofs.YtjmfjemandkfdabGreatDoor
open Go
set_option maxRecDepth 100000
/-- The card, for the claim. -/
theorem fnExactFits_holds : Rows.FnExactFitsCardSaid :=
  Claim7.holds_tied_plain_at .later [] [.data, .data, .data, .sentinel, .sentinel] true (true, "88035c990d924169e83820c8b1b0515ef9f22ff69c1620b6bf046c63849564c0") true
    fnExactFits.proved (fun _ h => by cases h) (by kernel_rfl) (fun _ h => by cases h) fnExactFits_row_tie rfl ⟨rfl, rfl⟩ (by kernel_rfl) rfl
    (fun f fn hf hfn => by
      obtain rfl : f = 3 := Option.some.inj ((show Tryz.prog.funcNamed "loop.example/g00964/laws.FnExactFits" = some 3 by kernel_rfl).symm.trans hf) |>.symm
      obtain rfl : fn = Tryz.f3 := (Option.some.inj (Tryz.func3.symm.trans hfn)).symm
      exact ⟨by kernel_rfl, fun j t ht => by
        rw [Tryz.params3] at ht
        have hm : t ∈ [25, 29, 31] := by simpa using Array.mem_of_getElem? ht
        have hall : ([25, 29, 31].all fun u => !Tryz.prog.wantsStandIn u) = true := by kernel_rfl
        exact (show Tryz.prog.wantsStandIn t = false by simpa using List.all_eq_true.1 hall t hm)⟩)
    (by kernel_rfl)
#print axioms fnExactFits_holds
end Go.Proofs.YtjmfjemandkfdabGreatDoor
