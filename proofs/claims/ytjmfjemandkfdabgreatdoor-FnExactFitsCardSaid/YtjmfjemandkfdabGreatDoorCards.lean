/-
  DERIVED. GIVEN WITH THE SEED: THE CARDS: each row of YtjmfjemandkfdabGreatDoorRows.lean that lists a variable, with what it lists TIED to the program's text (the seventh form; the later family's looks); each row that meets fmt, with fmt's text TOLD by the authors' own Lean function (tested against real Go, not proved from fmt's source: count such statements apart). THE CARD IS WHAT COUNTS. Prove the row's statement (the work); the ties are given (YtjmfjemandkfdabGreatDoorTie.lean); close each card by the builder's one call (the guide's Derived/Test/ToyasCard.lean, 'card_holds'). Laid BY PROGRAM, IN A SANDBOX (cutbox-door.mjs). By AI agents, Wed Nov 11 2026. No macro, syntax, notation, axiom, sorry.
-/
import Derived.Test.YtjmfjemandkfdabGreatDoorRows
import GoSem.ClaimSeven
namespace Go.Proofs.YtjmfjemandkfdabGreatDoor
namespace Rows

/-- THE TIED CARD OF 'laws.FnExactFits'. -/
def fnExactFitsCard : Claim7 := { stood := { row := fnExactFitsRow, standIns := [], harness := (true, "88035c990d924169e83820c8b1b0515ef9f22ff69c1620b6bf046c63849564c0"), looks := true }, kinds := [], alts := [], laidByText := true, laidKinds := [.data, .data, .data, .sentinel, .sentinel], laidTests := true, laidLooks := .later }
def FnExactFitsCardSaid : Prop := Claim7.holds Tryz.pinned (.plain (OpenSpec.ofChange fnExactFitsSpec)) fnExactFitsCard

/-- THE SECOND FORM's CARD OF 'laws.FnExactFits'. -/
def fnExactFitsUptoCard : Claim7 := { stood := { row := fnExactFitsUptoRow, standIns := [], harness := (true, "88035c990d924169e83820c8b1b0515ef9f22ff69c1620b6bf046c63849564c0"), looks := true }, kinds := [], alts := [], laidByText := true, laidKinds := [.data, .data, .data, .sentinel, .sentinel], laidTests := true, laidLooks := .later }
def FnExactFitsUptoCardSaid : Prop := Claim7.holds Tryz.pinned (.plain (OpenSpec.upto fnExactFitsSpec)) fnExactFitsUptoCard
end Rows
end Go.Proofs.YtjmfjemandkfdabGreatDoor
