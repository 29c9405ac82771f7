import Derived.Test.YthbcjkppdjpihaaGreatDoorMA12
import Derived.Test.YthbcjkppdjpihaaGreatDoorTie
import Derived.Test.YthbcjkppdjpihaaGreatDoorCards
import Derived.SevenTiedAt
/- The law FnFits: the tied card. -/
namespace Go.Proofs.YthbcjkppdjpihaaGreatDoor
open Go
set_option maxRecDepth 100000
/-- The card, for the claim. -/
theorem fnFits_holds : Rows.FnFitsCardSaid :=
  Claim7.holds_tied_plain_at .later [] [.data, .data, .data, .sentinel, .sentinel] true (true, "c8da60739ea43ba3563422598494d9b562675b41a7f6438c1f561dec12147ce9") true
    fnFits.proved (fun _ h => by cases h) (by kernel_rfl) (fun _ h => by cases h) fnFits_row_tie rfl ⟨rfl, rfl⟩ (by kernel_rfl) rfl
    (fun f fn hf hfn => by
      obtain rfl : f = 3 := Option.some.inj ((show Tryz.prog.funcNamed "loop.example/g00964/laws.FnFits" = some 3 by kernel_rfl).symm.trans hf) |>.symm
      obtain rfl : fn = Tryz.f3 := (Option.some.inj (Tryz.func3.symm.trans hfn)).symm
      exact ⟨by kernel_rfl, fun j t ht => by
        rw [Tryz.params3] at ht
        have hm : t ∈ [22] := by simpa using Array.mem_of_getElem? ht
        have hall : ([22].all fun u => !Tryz.prog.wantsStandIn u) = true := by kernel_rfl
        exact (show Tryz.prog.wantsStandIn t = false by simpa using List.all_eq_true.1 hall t hm)⟩)
    (by kernel_rfl)
#print axioms fnFits_holds
end Go.Proofs.YthbcjkppdjpihaaGreatDoor
