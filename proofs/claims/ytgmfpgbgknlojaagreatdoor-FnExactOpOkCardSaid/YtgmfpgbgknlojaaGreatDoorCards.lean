/-
  DERIVED. GIVEN WITH THE SEED: THE CARDS: each row of YtgmfpgbgknlojaaGreatDoorRows.lean that lists a variable, with what it lists TIED to the program's text (the seventh form; the later family's looks); each row that meets fmt, with fmt's text TOLD by the authors' own Lean function (tested against real Go, not proved from fmt's source: count such statements apart). THE CARD IS WHAT COUNTS. Prove the row's statement (the work); the ties are given (YtgmfpgbgknlojaaGreatDoorTie.lean); close each card by the builder's one call (the guide's Derived/Test/ToyasCard.lean, 'card_holds'). Laid BY PROGRAM, IN A SANDBOX (cutbox-door.mjs). By AI agents, Wed Nov 11 2026. No macro, syntax, notation, axiom, sorry.
-/
import Derived.Test.YtgmfpgbgknlojaaGreatDoorRows
import GoSem.ClaimSeven
namespace Go.Proofs.YtgmfpgbgknlojaaGreatDoor
namespace Rows

/-- THE TIED CARD OF 'laws.FnExactSelOk'. -/
def fnExactSelOkCard : Claim7 := { stood := { row := fnExactSelOkRow, standIns := [], harness := (true, "77b88bc4b51d9093a1d6e9b7946bf75582a1a92e40cf8236436ddf060ed2f638"), looks := false }, kinds := [], alts := [], laidByText := true, laidKinds := [.data, .pinned], laidTests := true, laidLooks := .later }
def FnExactSelOkCardSaid : Prop := Claim7.holds Tryz.pinned (.plain (OpenSpec.ofChange fnExactSelOkSpec)) fnExactSelOkCard

/-- THE TIED CARD OF 'laws.FnExactFragOk'. -/
def fnExactFragOkCard : Claim7 := { stood := { row := fnExactFragOkRow, standIns := [], harness := (true, "77b88bc4b51d9093a1d6e9b7946bf75582a1a92e40cf8236436ddf060ed2f638"), looks := false }, kinds := [], alts := [], laidByText := true, laidKinds := [.data, .pinned], laidTests := true, laidLooks := .later }
def FnExactFragOkCardSaid : Prop := Claim7.holds Tryz.pinned (.plain (OpenSpec.ofChange fnExactFragOkSpec)) fnExactFragOkCard

/-- THE TIED CARD OF 'laws.FnExactVarDefOk'. -/
def fnExactVarDefOkCard : Claim7 := { stood := { row := fnExactVarDefOkRow, standIns := [], harness := (true, "77b88bc4b51d9093a1d6e9b7946bf75582a1a92e40cf8236436ddf060ed2f638"), looks := false }, kinds := [], alts := [], laidByText := true, laidKinds := [.data, .pinned], laidTests := true, laidLooks := .later }
def FnExactVarDefOkCardSaid : Prop := Claim7.holds Tryz.pinned (.plain (OpenSpec.ofChange fnExactVarDefOkSpec)) fnExactVarDefOkCard

/-- THE TIED CARD OF 'laws.FnExactOpOk'. -/
def fnExactOpOkCard : Claim7 := { stood := { row := fnExactOpOkRow, standIns := [], harness := (true, "77b88bc4b51d9093a1d6e9b7946bf75582a1a92e40cf8236436ddf060ed2f638"), looks := false }, kinds := [], alts := [], laidByText := true, laidKinds := [.data, .pinned], laidTests := true, laidLooks := .later }
def FnExactOpOkCardSaid : Prop := Claim7.holds Tryz.pinned (.plain (OpenSpec.ofChange fnExactOpOkSpec)) fnExactOpOkCard

/-- THE SECOND FORM's CARD OF 'laws.FnExactSelOk'. -/
def fnExactSelOkUptoCard : Claim7 := { stood := { row := fnExactSelOkUptoRow, standIns := [], harness := (true, "77b88bc4b51d9093a1d6e9b7946bf75582a1a92e40cf8236436ddf060ed2f638"), looks := false }, kinds := [], alts := [], laidByText := true, laidKinds := [.data, .pinned], laidTests := true, laidLooks := .later }
def FnExactSelOkUptoCardSaid : Prop := Claim7.holds Tryz.pinned (.plain (OpenSpec.upto fnExactSelOkSpec)) fnExactSelOkUptoCard

/-- THE SECOND FORM's CARD OF 'laws.FnExactFragOk'. -/
def fnExactFragOkUptoCard : Claim7 := { stood := { row := fnExactFragOkUptoRow, standIns := [], harness := (true, "77b88bc4b51d9093a1d6e9b7946bf75582a1a92e40cf8236436ddf060ed2f638"), looks := false }, kinds := [], alts := [], laidByText := true, laidKinds := [.data, .pinned], laidTests := true, laidLooks := .later }
def FnExactFragOkUptoCardSaid : Prop := Claim7.holds Tryz.pinned (.plain (OpenSpec.upto fnExactFragOkSpec)) fnExactFragOkUptoCard

/-- THE SECOND FORM's CARD OF 'laws.FnExactVarDefOk'. -/
def fnExactVarDefOkUptoCard : Claim7 := { stood := { row := fnExactVarDefOkUptoRow, standIns := [], harness := (true, "77b88bc4b51d9093a1d6e9b7946bf75582a1a92e40cf8236436ddf060ed2f638"), looks := false }, kinds := [], alts := [], laidByText := true, laidKinds := [.data, .pinned], laidTests := true, laidLooks := .later }
def FnExactVarDefOkUptoCardSaid : Prop := Claim7.holds Tryz.pinned (.plain (OpenSpec.upto fnExactVarDefOkSpec)) fnExactVarDefOkUptoCard

/-- THE SECOND FORM's CARD OF 'laws.FnExactOpOk'. -/
def fnExactOpOkUptoCard : Claim7 := { stood := { row := fnExactOpOkUptoRow, standIns := [], harness := (true, "77b88bc4b51d9093a1d6e9b7946bf75582a1a92e40cf8236436ddf060ed2f638"), looks := false }, kinds := [], alts := [], laidByText := true, laidKinds := [.data, .pinned], laidTests := true, laidLooks := .later }
def FnExactOpOkUptoCardSaid : Prop := Claim7.holds Tryz.pinned (.plain (OpenSpec.upto fnExactOpOkSpec)) fnExactOpOkUptoCard
end Rows
end Go.Proofs.YtgmfpgbgknlojaaGreatDoor
