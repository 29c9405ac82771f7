import Derived.Test.YthjfcobfjljkpabGreatDoorMD11
import Derived.Test.YthjfcobfjljkpabGreatDoorTie
import Derived.Test.YthjfcobfjljkpabGreatDoorCards
import Derived.SevenTiedAt
/- The law FnExactDocOk: the tied card. -/
namespace Go.Proofs.YthjfcobfjljkpabGreatDoor
open Go
set_option maxRecDepth 100000
/-- The card, for the claim. -/
theorem fnExactDocOk_holds : Rows.FnExactDocOkCardSaid :=
  Claim7.holds_tied_plain_at .later [] [.data, .pinned] true (true, "1c83164070124bc6e067a46aaff47c1aaaab40c199e5f3939a0270107223b4f5") false
    fnExactDocOk.proved (fun _ h => by cases h) (by kernel_rfl) (fun _ h => by cases h) fnExactDocOk_row_tie rfl ⟨rfl, rfl⟩ (by kernel_rfl) rfl
    (fun f fn hf hfn => by
      obtain rfl : f = 4 := Option.some.inj ((show Tryz.prog.funcNamed "loop.example/g00964/laws.FnExactDocOk" = some 4 by kernel_rfl).symm.trans hf) |>.symm
      obtain rfl : fn = Tryz.f4 := (Option.some.inj (Tryz.func4.symm.trans hfn)).symm
      exact ⟨by kernel_rfl, fun j t ht => by
        rw [Tryz.params4] at ht
        have hm : t ∈ [44] := by simpa using Array.mem_of_getElem? ht
        have hall : ([44].all fun u => !Tryz.prog.wantsStandIn u) = true := by kernel_rfl
        exact (show Tryz.prog.wantsStandIn t = false by simpa using List.all_eq_true.1 hall t hm)⟩)
    (by kernel_rfl)
#print axioms fnExactDocOk_holds
end Go.Proofs.YthjfcobfjljkpabGreatDoor
