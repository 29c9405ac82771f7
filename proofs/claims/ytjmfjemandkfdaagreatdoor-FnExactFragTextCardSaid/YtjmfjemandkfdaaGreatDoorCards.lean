/-
  DERIVED. GIVEN WITH THE SEED: THE CARDS: each row of YtjmfjemandkfdaaGreatDoorRows.lean that lists a variable, with what it lists TIED to the program's text (the seventh form; the later family's looks); each row that meets fmt, with fmt's text TOLD by the authors' own Lean function (tested against real Go, not proved from fmt's source: count such statements apart). THE CARD IS WHAT COUNTS. Prove the row's statement (the work); the ties are given (YtjmfjemandkfdaaGreatDoorTie.lean); close each card by the builder's one call (the guide's Derived/Test/ToyasCard.lean, 'card_holds'). Laid BY PROGRAM, IN A SANDBOX (cutbox-door.mjs). By AI agents, Wed Nov 11 2026. No macro, syntax, notation, axiom, sorry.
-/
import Derived.Test.YtjmfjemandkfdaaGreatDoorRows
import GoSem.ClaimSeven
namespace Go.Proofs.YtjmfjemandkfdaaGreatDoor
namespace Rows

/-- THE TIED CARD OF 'laws.FnExactFragText'. -/
def fnExactFragTextCard : Claim7 := { stood := { row := fnExactFragTextRow, standIns := [], harness := (true, "7e3f5af63fe1d5e579360e7a1520f5af8c9ed69567286390f417cad109be6349"), looks := false }, kinds := [], alts := [], laidByText := true, laidKinds := [.data, .pinned], laidTests := true, laidLooks := .later }
def FnExactFragTextCardSaid : Prop := Claim7.holds Tryz.pinned (.plain (OpenSpec.ofChange fnExactFragTextSpec)) fnExactFragTextCard

/-- THE SECOND FORM's CARD OF 'laws.FnExactFragText'. -/
def fnExactFragTextUptoCard : Claim7 := { stood := { row := fnExactFragTextUptoRow, standIns := [], harness := (true, "7e3f5af63fe1d5e579360e7a1520f5af8c9ed69567286390f417cad109be6349"), looks := false }, kinds := [], alts := [], laidByText := true, laidKinds := [.data, .pinned], laidTests := true, laidLooks := .later }
def FnExactFragTextUptoCardSaid : Prop := Claim7.holds Tryz.pinned (.plain (OpenSpec.upto fnExactFragTextSpec)) fnExactFragTextUptoCard
end Rows
end Go.Proofs.YtjmfjemandkfdaaGreatDoor
