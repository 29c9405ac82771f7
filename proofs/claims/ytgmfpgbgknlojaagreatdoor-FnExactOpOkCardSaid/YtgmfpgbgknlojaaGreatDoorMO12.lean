import Derived.Test.YtgmfpgbgknlojaaGreatDoorMO11
import Derived.Test.YtgmfpgbgknlojaaGreatDoorTie
import Derived.Test.YtgmfpgbgknlojaaGreatDoorCards
import Derived.SevenTiedAt
/- The law FnExactOpOk: the tied card. -/
namespace Go.Proofs.YtgmfpgbgknlojaaGreatDoor
open Go
set_option maxRecDepth 100000
/-- The card, for the claim. -/
theorem fnExactOpOk_holds : Rows.FnExactOpOkCardSaid :=
  Claim7.holds_tied_plain_at .later [] [.data, .pinned] true (true, "77b88bc4b51d9093a1d6e9b7946bf75582a1a92e40cf8236436ddf060ed2f638") false
    fnExactOpOk.proved (fun _ h => by cases h) (by kernel_rfl) (fun _ h => by cases h) fnExactOpOk_row_tie rfl ⟨rfl, rfl⟩ (by kernel_rfl) rfl
    (fun f fn hf hfn => by
      obtain rfl : f = 6 := Option.some.inj ((show Tryz.prog.funcNamed "loop.example/g00964/laws.FnExactOpOk" = some 6 by kernel_rfl).symm.trans hf) |>.symm
      obtain rfl : fn = Tryz.f6 := (Option.some.inj (Tryz.func6.symm.trans hfn)).symm
      exact ⟨by kernel_rfl, fun j t ht => by
        rw [Tryz.params6] at ht
        have hm : t ∈ [67] := by simpa using Array.mem_of_getElem? ht
        have hall : ([67].all fun u => !Tryz.prog.wantsStandIn u) = true := by kernel_rfl
        exact (show Tryz.prog.wantsStandIn t = false by simpa using List.all_eq_true.1 hall t hm)⟩)
    (by kernel_rfl)
#print axioms fnExactOpOk_holds
end Go.Proofs.YtgmfpgbgknlojaaGreatDoor
