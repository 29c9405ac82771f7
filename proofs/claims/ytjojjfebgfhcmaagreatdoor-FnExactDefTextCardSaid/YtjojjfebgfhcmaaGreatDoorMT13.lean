import Derived.Test.YtjojjfebgfhcmaaGreatDoorMT12
import Derived.Test.YtjojjfebgfhcmaaGreatDoorTie
import Derived.Test.YtjojjfebgfhcmaaGreatDoorCards
import Derived.SevenTiedAt
/- The law FnExactDefText: the tied card. -/
namespace Go.Proofs.YtjojjfebgfhcmaaGreatDoor
open Go
set_option maxRecDepth 100000
/-- The card, for the claim. -/
theorem fnExactDefText_holds : Rows.FnExactDefTextCardSaid :=
  Claim7.holds_tied_plain_at .later [] [.data, .pinned] true (true, "ef2970dc6d7cb31ce8113dd2cb00706d7789fd6dd3ac7df025b40599cbd484a1") false
    fnExactDefText.proved (fun _ h => by cases h) (by kernel_rfl) (fun _ h => by cases h) fnExactDefText_row_tie rfl ⟨rfl, rfl⟩ (by kernel_rfl) rfl
    (fun f fn hf hfn => by
      obtain rfl : f = 3 := Option.some.inj ((show Tryz.prog.funcNamed "loop.example/g00964/laws.FnExactDefText" = some 3 by kernel_rfl).symm.trans hf) |>.symm
      obtain rfl : fn = Tryz.f3 := (Option.some.inj (Tryz.func3.symm.trans hfn)).symm
      exact ⟨by kernel_rfl, fun j t ht => by
        rw [Tryz.params3] at ht
        have hm : t ∈ [29] := by simpa using Array.mem_of_getElem? ht
        have hall : ([29].all fun u => !Tryz.prog.wantsStandIn u) = true := by kernel_rfl
        exact (show Tryz.prog.wantsStandIn t = false by simpa using List.all_eq_true.1 hall t hm)⟩)
    (by kernel_rfl)
#print axioms fnExactDefText_holds
end Go.Proofs.YtjojjfebgfhcmaaGreatDoor
