import Derived.Test.YtjmfjemandkfdaaGreatDoorMG12
import Derived.Test.YtjmfjemandkfdaaGreatDoorTie
import Derived.Test.YtjmfjemandkfdaaGreatDoorCards
import Derived.SevenTiedAt
/- The law FnExactFragText: the tied card. -/
namespace Go.Proofs.YtjmfjemandkfdaaGreatDoor
open Go
set_option maxRecDepth 100000
/-- The card, for the claim. -/
theorem fnExactFragText_holds : Rows.FnExactFragTextCardSaid :=
  Claim7.holds_tied_plain_at .later [] [.data, .pinned] true (true, "7e3f5af63fe1d5e579360e7a1520f5af8c9ed69567286390f417cad109be6349") false
    fnExactFragText.proved (fun _ h => by cases h) (by kernel_rfl) (fun _ h => by cases h) fnExactFragText_row_tie rfl ⟨rfl, rfl⟩ (by kernel_rfl) rfl
    (fun f fn hf hfn => by
      obtain rfl : f = 3 := Option.some.inj ((show Tryz.prog.funcNamed "loop.example/g00964/laws.FnExactFragText" = some 3 by kernel_rfl).symm.trans hf) |>.symm
      obtain rfl : fn = Tryz.f3 := (Option.some.inj (Tryz.func3.symm.trans hfn)).symm
      exact ⟨by kernel_rfl, fun j t ht => by
        rw [Tryz.params3] at ht
        have hm : t ∈ [25] := by simpa using Array.mem_of_getElem? ht
        have hall : ([25].all fun u => !Tryz.prog.wantsStandIn u) = true := by kernel_rfl
        exact (show Tryz.prog.wantsStandIn t = false by simpa using List.all_eq_true.1 hall t hm)⟩)
    (by kernel_rfl)
#print axioms fnExactFragText_holds
end Go.Proofs.YtjmfjemandkfdaaGreatDoor
