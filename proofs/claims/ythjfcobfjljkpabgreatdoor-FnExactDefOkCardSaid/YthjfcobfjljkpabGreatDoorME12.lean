import Derived.Test.YthjfcobfjljkpabGreatDoorME11
import Derived.Test.YthjfcobfjljkpabGreatDoorTie
import Derived.Test.YthjfcobfjljkpabGreatDoorCards
import Derived.SevenTiedAt
/- The law FnExactDefOk: the tied card. -/
namespace Go.Proofs.YthjfcobfjljkpabGreatDoor
open Go
set_option maxRecDepth 100000
/-- The card, for the claim. -/
theorem fnExactDefOk_holds : Rows.FnExactDefOkCardSaid :=
  Claim7.holds_tied_plain_at .later [] [.data, .pinned] true (true, "1c83164070124bc6e067a46aaff47c1aaaab40c199e5f3939a0270107223b4f5") false
    fnExactDefOk.proved (fun _ h => by cases h) (by kernel_rfl) (fun _ h => by cases h) fnExactDefOk_row_tie rfl ⟨rfl, rfl⟩ (by kernel_rfl) rfl
    (fun f fn hf hfn => by
      obtain rfl : f = 3 := Option.some.inj ((show Tryz.prog.funcNamed "loop.example/g00964/laws.FnExactDefOk" = some 3 by kernel_rfl).symm.trans hf) |>.symm
      obtain rfl : fn = Tryz.f3 := (Option.some.inj (Tryz.func3.symm.trans hfn)).symm
      exact ⟨by kernel_rfl, fun j t ht => by
        rw [Tryz.params3] at ht
        have hm : t ∈ [29] := by simpa using Array.mem_of_getElem? ht
        have hall : ([29].all fun u => !Tryz.prog.wantsStandIn u) = true := by kernel_rfl
        exact (show Tryz.prog.wantsStandIn t = false by simpa using List.all_eq_true.1 hall t hm)⟩)
    (by kernel_rfl)
#print axioms fnExactDefOk_holds
end Go.Proofs.YthjfcobfjljkpabGreatDoor
