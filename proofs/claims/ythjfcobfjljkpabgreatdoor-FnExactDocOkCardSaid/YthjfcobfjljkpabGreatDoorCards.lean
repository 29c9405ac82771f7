/-
  DERIVED. GIVEN WITH THE SEED: THE CARDS: each row of YthjfcobfjljkpabGreatDoorRows.lean that lists a variable, with what it lists TIED to the program's text (the seventh form; the later family's looks); each row that meets fmt, with fmt's text TOLD by the authors' own Lean function (tested against real Go, not proved from fmt's source: count such statements apart). THE CARD IS WHAT COUNTS. Prove the row's statement (the work); the ties are given (YthjfcobfjljkpabGreatDoorTie.lean); close each card by the builder's one call (the guide's Derived/Test/ToyasCard.lean, 'card_holds'). Laid BY PROGRAM, IN A SANDBOX (cutbox-door.mjs). By AI agents, Wed Nov 11 2026. No macro, syntax, notation, axiom, sorry.
-/
import Derived.Test.YthjfcobfjljkpabGreatDoorRows
import GoSem.ClaimSeven
namespace Go.Proofs.YthjfcobfjljkpabGreatDoor
namespace Rows

/-- THE TIED CARD OF 'laws.FnExactDefOk'. -/
def fnExactDefOkCard : Claim7 := { stood := { row := fnExactDefOkRow, standIns := [], harness := (true, "1c83164070124bc6e067a46aaff47c1aaaab40c199e5f3939a0270107223b4f5"), looks := false }, kinds := [], alts := [], laidByText := true, laidKinds := [.data, .pinned], laidTests := true, laidLooks := .later }
def FnExactDefOkCardSaid : Prop := Claim7.holds Tryz.pinned (.plain (OpenSpec.ofChange fnExactDefOkSpec)) fnExactDefOkCard

/-- THE TIED CARD OF 'laws.FnExactDocOk'. -/
def fnExactDocOkCard : Claim7 := { stood := { row := fnExactDocOkRow, standIns := [], harness := (true, "1c83164070124bc6e067a46aaff47c1aaaab40c199e5f3939a0270107223b4f5"), looks := false }, kinds := [], alts := [], laidByText := true, laidKinds := [.data, .pinned], laidTests := true, laidLooks := .later }
def FnExactDocOkCardSaid : Prop := Claim7.holds Tryz.pinned (.plain (OpenSpec.ofChange fnExactDocOkSpec)) fnExactDocOkCard

/-- THE SECOND FORM's CARD OF 'laws.FnExactDefOk'. -/
def fnExactDefOkUptoCard : Claim7 := { stood := { row := fnExactDefOkUptoRow, standIns := [], harness := (true, "1c83164070124bc6e067a46aaff47c1aaaab40c199e5f3939a0270107223b4f5"), looks := false }, kinds := [], alts := [], laidByText := true, laidKinds := [.data, .pinned], laidTests := true, laidLooks := .later }
def FnExactDefOkUptoCardSaid : Prop := Claim7.holds Tryz.pinned (.plain (OpenSpec.upto fnExactDefOkSpec)) fnExactDefOkUptoCard

/-- THE SECOND FORM's CARD OF 'laws.FnExactDocOk'. -/
def fnExactDocOkUptoCard : Claim7 := { stood := { row := fnExactDocOkUptoRow, standIns := [], harness := (true, "1c83164070124bc6e067a46aaff47c1aaaab40c199e5f3939a0270107223b4f5"), looks := false }, kinds := [], alts := [], laidByText := true, laidKinds := [.data, .pinned], laidTests := true, laidLooks := .later }
def FnExactDocOkUptoCardSaid : Prop := Claim7.holds Tryz.pinned (.plain (OpenSpec.upto fnExactDocOkSpec)) fnExactDocOkUptoCard
end Rows
end Go.Proofs.YthjfcobfjljkpabGreatDoor
