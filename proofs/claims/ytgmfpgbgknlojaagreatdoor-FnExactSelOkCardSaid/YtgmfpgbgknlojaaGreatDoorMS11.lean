import Derived.Test.YtgmfpgbgknlojaaGreatDoorMS10
import Derived.Test.YtgmfpgbgknlojaaGreatDoorTie
import Derived.Test.YtgmfpgbgknlojaaGreatDoorCards
import Derived.SevenTiedAt
/- The law FnExactSelOk: the tied card. -/
namespace Go.Proofs.YtgmfpgbgknlojaaGreatDoor
open Go
set_option maxRecDepth 100000
/-- The card, for the claim. -/
theorem fnExactSelOk_holds : Rows.FnExactSelOkCardSaid :=
  Claim7.holds_tied_plain_at .later [] [.data, .pinned] true (true, "77b88bc4b51d9093a1d6e9b7946bf75582a1a92e40cf8236436ddf060ed2f638") false
    fnExactSelOk.proved (fun _ h => by cases h) (by kernel_rfl) (fun _ h => by cases h) fnExactSelOk_row_tie rfl ⟨rfl, rfl⟩ (by kernel_rfl) rfl
    (fun f fn hf hfn => by
      obtain rfl : f = 3 := Option.some.inj ((show Tryz.prog.funcNamed "loop.example/g00964/laws.FnExactSelOk" = some 3 by kernel_rfl).symm.trans hf) |>.symm
      obtain rfl : fn = Tryz.f3 := (Option.some.inj (Tryz.func3.symm.trans hfn)).symm
      exact ⟨by kernel_rfl, fun j t ht => by
        rw [Tryz.params3] at ht
        have hm : t ∈ [26] := by simpa using Array.mem_of_getElem? ht
        have hall : ([26].all fun u => !Tryz.prog.wantsStandIn u) = true := by kernel_rfl
        exact (show Tryz.prog.wantsStandIn t = false by simpa using List.all_eq_true.1 hall t hm)⟩)
    (by kernel_rfl)
#print axioms fnExactSelOk_holds
end Go.Proofs.YtgmfpgbgknlojaaGreatDoor
