import Derived.Test.YtgmfpgbgknlojaaGreatDoorMF10
import Derived.Test.YtgmfpgbgknlojaaGreatDoorTie
import Derived.Test.YtgmfpgbgknlojaaGreatDoorCards
import Derived.SevenTiedAt
/- The law FnExactFragOk: the tied card. -/
namespace Go.Proofs.YtgmfpgbgknlojaaGreatDoor
open Go
set_option maxRecDepth 100000
/-- The card, for the claim. -/
theorem fnExactFragOk_holds : Rows.FnExactFragOkCardSaid :=
  Claim7.holds_tied_plain_at .later [] [.data, .pinned] true (true, "77b88bc4b51d9093a1d6e9b7946bf75582a1a92e40cf8236436ddf060ed2f638") false
    fnExactFragOk.proved (fun _ h => by cases h) (by kernel_rfl) (fun _ h => by cases h) fnExactFragOk_row_tie rfl ⟨rfl, rfl⟩ (by kernel_rfl) rfl
    (fun f fn hf hfn => by
      obtain rfl : f = 4 := Option.some.inj ((show Tryz.prog.funcNamed "loop.example/g00964/laws.FnExactFragOk" = some 4 by kernel_rfl).symm.trans hf) |>.symm
      obtain rfl : fn = Tryz.f4 := (Option.some.inj (Tryz.func4.symm.trans hfn)).symm
      exact ⟨by kernel_rfl, fun j t ht => by
        rw [Tryz.params4] at ht
        have hm : t ∈ [38] := by simpa using Array.mem_of_getElem? ht
        have hall : ([38].all fun u => !Tryz.prog.wantsStandIn u) = true := by kernel_rfl
        exact (show Tryz.prog.wantsStandIn t = false by simpa using List.all_eq_true.1 hall t hm)⟩)
    (by kernel_rfl)
#print axioms fnExactFragOk_holds
end Go.Proofs.YtgmfpgbgknlojaaGreatDoor
