/-
  DERIVED. GIVEN WITH THE SEED: THE CARDS: each row of YtljggmbgbnmapaaDoorRows.lean that lists a variable, with what it lists TIED to the program's text (the seventh form; the later family's looks); each row that meets fmt, with fmt's text TOLD by the authors' own Lean function (tested against real Go, not proved from fmt's source: count such statements apart). THE CARD IS WHAT COUNTS. Prove the row's statement (the work); the ties are given (YtljggmbgbnmapaaDoorTie.lean); close each card by the builder's one call (the guide's Derived/Test/ToyasCard.lean, 'card_holds'). Laid BY PROGRAM, IN A SANDBOX (cutbox-door.mjs). By AI agents, Wed Nov 11 2026. No macro, syntax, notation, axiom, sorry.
-/
import Derived.Test.YtljggmbgbnmapaaDoorRows
import GoSem.ClaimSeven
namespace Go.Proofs.YtljggmbgbnmapaaDoor
namespace Rows

/-- THE TIED CARD OF 'laws.FnExactJsonOk'. -/
def fnExactJsonOkCard : Claim7 := { stood := { row := fnExactJsonOkRow, standIns := [], harness := (true, "91a60ba5f46441482bd215030c5c78f296832f8e2e54f62a0cb4036b455ce037"), looks := false }, kinds := [], alts := [], laidByText := true, laidKinds := [.data, .pinned], laidTests := true, laidLooks := .later }
def FnExactJsonOkCardSaid : Prop := Claim7.holds Tryd.pinned (.plain (OpenSpec.ofChange fnExactJsonOkSpec)) fnExactJsonOkCard

/-- THE TIED CARD OF 'laws.FnExactShortText'. -/
def fnExactShortTextCard : Claim7 := { stood := { row := fnExactShortTextRow, standIns := [], harness := (true, "91a60ba5f46441482bd215030c5c78f296832f8e2e54f62a0cb4036b455ce037"), looks := false }, kinds := [], alts := [], laidByText := true, laidKinds := [.data, .pinned], laidTests := true, laidLooks := .later }
def FnExactShortTextCardSaid : Prop := Claim7.holds Tryd.pinned (.plain (OpenSpec.ofChange fnExactShortTextSpec)) fnExactShortTextCard

/-- THE SECOND FORM's CARD OF 'laws.FnExactJsonOk'. -/
def fnExactJsonOkUptoCard : Claim7 := { stood := { row := fnExactJsonOkUptoRow, standIns := [], harness := (true, "91a60ba5f46441482bd215030c5c78f296832f8e2e54f62a0cb4036b455ce037"), looks := false }, kinds := [], alts := [], laidByText := true, laidKinds := [.data, .pinned], laidTests := true, laidLooks := .later }
def FnExactJsonOkUptoCardSaid : Prop := Claim7.holds Tryd.pinned (.plain (OpenSpec.upto fnExactJsonOkSpec)) fnExactJsonOkUptoCard

/-- THE SECOND FORM's CARD OF 'laws.FnExactShortText'. -/
def fnExactShortTextUptoCard : Claim7 := { stood := { row := fnExactShortTextUptoRow, standIns := [], harness := (true, "91a60ba5f46441482bd215030c5c78f296832f8e2e54f62a0cb4036b455ce037"), looks := false }, kinds := [], alts := [], laidByText := true, laidKinds := [.data, .pinned], laidTests := true, laidLooks := .later }
def FnExactShortTextUptoCardSaid : Prop := Claim7.holds Tryd.pinned (.plain (OpenSpec.upto fnExactShortTextSpec)) fnExactShortTextUptoCard
end Rows
end Go.Proofs.YtljggmbgbnmapaaDoor
