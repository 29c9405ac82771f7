/-
  DERIVED. GIVEN WITH THE SEED: THE CARDS: each row of YtjojjfebgfhcmaaGreatDoorRows.lean that lists a variable, with what it lists TIED to the program's text (the seventh form; the later family's looks); each row that meets fmt, with fmt's text TOLD by the authors' own Lean function (tested against real Go, not proved from fmt's source: count such statements apart). THE CARD IS WHAT COUNTS. Prove the row's statement (the work); the ties are given (YtjojjfebgfhcmaaGreatDoorTie.lean); close each card by the builder's one call (the guide's Derived/Test/ToyasCard.lean, 'card_holds'). Laid BY PROGRAM, IN A SANDBOX (cutbox-door.mjs). By AI agents, Wed Nov 11 2026. No macro, syntax, notation, axiom, sorry.
-/
import Derived.Test.YtjojjfebgfhcmaaGreatDoorRows
import GoSem.ClaimSeven
namespace Go.Proofs.YtjojjfebgfhcmaaGreatDoor
namespace Rows

/-- THE TIED CARD OF 'laws.FnExactDefText'. -/
def fnExactDefTextCard : Claim7 := { stood := { row := fnExactDefTextRow, standIns := [], harness := (true, "ef2970dc6d7cb31ce8113dd2cb00706d7789fd6dd3ac7df025b40599cbd484a1"), looks := false }, kinds := [], alts := [], laidByText := true, laidKinds := [.data, .pinned], laidTests := true, laidLooks := .later }
def FnExactDefTextCardSaid : Prop := Claim7.holds Tryz.pinned (.plain (OpenSpec.ofChange fnExactDefTextSpec)) fnExactDefTextCard

/-- THE SECOND FORM's CARD OF 'laws.FnExactDefText'. -/
def fnExactDefTextUptoCard : Claim7 := { stood := { row := fnExactDefTextUptoRow, standIns := [], harness := (true, "ef2970dc6d7cb31ce8113dd2cb00706d7789fd6dd3ac7df025b40599cbd484a1"), looks := false }, kinds := [], alts := [], laidByText := true, laidKinds := [.data, .pinned], laidTests := true, laidLooks := .later }
def FnExactDefTextUptoCardSaid : Prop := Claim7.holds Tryz.pinned (.plain (OpenSpec.upto fnExactDefTextSpec)) fnExactDefTextUptoCard
end Rows
end Go.Proofs.YtjojjfebgfhcmaaGreatDoor
