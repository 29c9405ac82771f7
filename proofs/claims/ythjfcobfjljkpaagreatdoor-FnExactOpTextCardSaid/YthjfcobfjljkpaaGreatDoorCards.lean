/-
  DERIVED. GIVEN WITH THE SEED: THE CARDS: each row of YthjfcobfjljkpaaGreatDoorRows.lean that lists a variable, with what it lists TIED to the program's text (the seventh form; the later family's looks); each row that meets fmt, with fmt's text TOLD by the authors' own Lean function (tested against real Go, not proved from fmt's source: count such statements apart). THE CARD IS WHAT COUNTS. Prove the row's statement (the work); the ties are given (YthjfcobfjljkpaaGreatDoorTie.lean); close each card by the builder's one call (the guide's Derived/Test/ToyasCard.lean, 'card_holds'). Laid BY PROGRAM, IN A SANDBOX (cutbox-door.mjs). By AI agents, Wed Nov 11 2026. No macro, syntax, notation, axiom, sorry.
-/
import Derived.Test.YthjfcobfjljkpaaGreatDoorRows
import GoSem.ClaimSeven
namespace Go.Proofs.YthjfcobfjljkpaaGreatDoor
namespace Rows

/-- THE TIED CARD OF 'laws.FnExactSelsText'. -/
def fnExactSelsTextCard : Claim7 := { stood := { row := fnExactSelsTextRow, standIns := [], harness := (true, "709900a3dd3bb74ae41d1becf30832239b254c1a4d97cbc65a972d63bca3fb83"), looks := false }, kinds := [], alts := [], laidByText := true, laidKinds := [.data, .pinned], laidTests := true, laidLooks := .later }
def FnExactSelsTextCardSaid : Prop := Claim7.holds Tryz.pinned (.plain (OpenSpec.ofChange fnExactSelsTextSpec)) fnExactSelsTextCard

/-- THE TIED CARD OF 'laws.FnExactInText'. -/
def fnExactInTextCard : Claim7 := { stood := { row := fnExactInTextRow, standIns := [], harness := (true, "709900a3dd3bb74ae41d1becf30832239b254c1a4d97cbc65a972d63bca3fb83"), looks := false }, kinds := [], alts := [], laidByText := true, laidKinds := [.data, .pinned], laidTests := true, laidLooks := .later }
def FnExactInTextCardSaid : Prop := Claim7.holds Tryz.pinned (.plain (OpenSpec.ofChange fnExactInTextSpec)) fnExactInTextCard

/-- THE TIED CARD OF 'laws.FnExactFragText'. -/
def fnExactFragTextCard : Claim7 := { stood := { row := fnExactFragTextRow, standIns := [], harness := (true, "709900a3dd3bb74ae41d1becf30832239b254c1a4d97cbc65a972d63bca3fb83"), looks := false }, kinds := [], alts := [], laidByText := true, laidKinds := [.data, .pinned], laidTests := true, laidLooks := .later }
def FnExactFragTextCardSaid : Prop := Claim7.holds Tryz.pinned (.plain (OpenSpec.ofChange fnExactFragTextSpec)) fnExactFragTextCard

/-- THE TIED CARD OF 'laws.FnExactFieldText'. -/
def fnExactFieldTextCard : Claim7 := { stood := { row := fnExactFieldTextRow, standIns := [], harness := (true, "709900a3dd3bb74ae41d1becf30832239b254c1a4d97cbc65a972d63bca3fb83"), looks := false }, kinds := [], alts := [], laidByText := true, laidKinds := [.data, .pinned], laidTests := true, laidLooks := .later }
def FnExactFieldTextCardSaid : Prop := Claim7.holds Tryz.pinned (.plain (OpenSpec.ofChange fnExactFieldTextSpec)) fnExactFieldTextCard

/-- THE TIED CARD OF 'laws.FnExactOpText'. -/
def fnExactOpTextCard : Claim7 := { stood := { row := fnExactOpTextRow, standIns := [], harness := (true, "709900a3dd3bb74ae41d1becf30832239b254c1a4d97cbc65a972d63bca3fb83"), looks := false }, kinds := [], alts := [], laidByText := true, laidKinds := [.data, .pinned], laidTests := true, laidLooks := .later }
def FnExactOpTextCardSaid : Prop := Claim7.holds Tryz.pinned (.plain (OpenSpec.ofChange fnExactOpTextSpec)) fnExactOpTextCard

/-- THE SECOND FORM's CARD OF 'laws.FnExactSelsText'. -/
def fnExactSelsTextUptoCard : Claim7 := { stood := { row := fnExactSelsTextUptoRow, standIns := [], harness := (true, "709900a3dd3bb74ae41d1becf30832239b254c1a4d97cbc65a972d63bca3fb83"), looks := false }, kinds := [], alts := [], laidByText := true, laidKinds := [.data, .pinned], laidTests := true, laidLooks := .later }
def FnExactSelsTextUptoCardSaid : Prop := Claim7.holds Tryz.pinned (.plain (OpenSpec.upto fnExactSelsTextSpec)) fnExactSelsTextUptoCard

/-- THE SECOND FORM's CARD OF 'laws.FnExactInText'. -/
def fnExactInTextUptoCard : Claim7 := { stood := { row := fnExactInTextUptoRow, standIns := [], harness := (true, "709900a3dd3bb74ae41d1becf30832239b254c1a4d97cbc65a972d63bca3fb83"), looks := false }, kinds := [], alts := [], laidByText := true, laidKinds := [.data, .pinned], laidTests := true, laidLooks := .later }
def FnExactInTextUptoCardSaid : Prop := Claim7.holds Tryz.pinned (.plain (OpenSpec.upto fnExactInTextSpec)) fnExactInTextUptoCard

/-- THE SECOND FORM's CARD OF 'laws.FnExactFragText'. -/
def fnExactFragTextUptoCard : Claim7 := { stood := { row := fnExactFragTextUptoRow, standIns := [], harness := (true, "709900a3dd3bb74ae41d1becf30832239b254c1a4d97cbc65a972d63bca3fb83"), looks := false }, kinds := [], alts := [], laidByText := true, laidKinds := [.data, .pinned], laidTests := true, laidLooks := .later }
def FnExactFragTextUptoCardSaid : Prop := Claim7.holds Tryz.pinned (.plain (OpenSpec.upto fnExactFragTextSpec)) fnExactFragTextUptoCard

/-- THE SECOND FORM's CARD OF 'laws.FnExactFieldText'. -/
def fnExactFieldTextUptoCard : Claim7 := { stood := { row := fnExactFieldTextUptoRow, standIns := [], harness := (true, "709900a3dd3bb74ae41d1becf30832239b254c1a4d97cbc65a972d63bca3fb83"), looks := false }, kinds := [], alts := [], laidByText := true, laidKinds := [.data, .pinned], laidTests := true, laidLooks := .later }
def FnExactFieldTextUptoCardSaid : Prop := Claim7.holds Tryz.pinned (.plain (OpenSpec.upto fnExactFieldTextSpec)) fnExactFieldTextUptoCard

/-- THE SECOND FORM's CARD OF 'laws.FnExactOpText'. -/
def fnExactOpTextUptoCard : Claim7 := { stood := { row := fnExactOpTextUptoRow, standIns := [], harness := (true, "709900a3dd3bb74ae41d1becf30832239b254c1a4d97cbc65a972d63bca3fb83"), looks := false }, kinds := [], alts := [], laidByText := true, laidKinds := [.data, .pinned], laidTests := true, laidLooks := .later }
def FnExactOpTextUptoCardSaid : Prop := Claim7.holds Tryz.pinned (.plain (OpenSpec.upto fnExactOpTextSpec)) fnExactOpTextUptoCard
end Rows
end Go.Proofs.YthjfcobfjljkpaaGreatDoor
