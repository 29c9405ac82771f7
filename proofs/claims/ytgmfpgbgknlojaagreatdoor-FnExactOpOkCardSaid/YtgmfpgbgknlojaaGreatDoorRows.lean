/-
  NARROWER THAN 'FOR EVERY INPUT', by the rows' own cells (each row's printed sentence says how): FnExactSelOk: loops, laid · FnExactFragOk: loops, laid · FnExactVarDefOk: loops, laid · FnExactOpOk: loops, laid.
  DERIVED. THE GIVEN ROWS OF THIS SEAT. 4 by the template 'for every input the law returns true; each argument reads behind the call as it read before'; 0 by the template 'total and deterministic' (their statements: YtgmfpgbgknlojaaGreatDoorTotals.lean).
  GIVEN WITH THE SEED: the statements are not yours to turn. If you find one false, say at which input.
  Laid BY PROGRAM, IN A SANDBOX (cutbox-rows.mjs): the forced cells as the released guide's own fill.sh prints them over the translation d5a48e17be0dbe5b… (all of the seat's roots in one cut). By AI agents, Wed Nov 11 2026. No macro, syntax, notation, axiom, sorry.
-/
import Derived.Test.YtgmfpgbgknlojaaGreatDoorChecked
import GoSem.PinnedTables
import GoSem.Claim
import GoSem.ClaimJoined
import GoSem.ClaimMapViews
import Derived.JoinedTies
import Derived.KernelRfl
namespace Go.Proofs.YtgmfpgbgknlojaaGreatDoor
/- THE CELL 'sum', in the pinned program and in every row, IS THE sha256 OF THE DUMP (.gsa) THAT YtgmfpgbgknlojaaGreatDoorProg.lean LOADS. Nothing in Lean hashes anything: it is a label: what it is worth is what the hold of that sum in a sandbox is worth. -/
noncomputable def Tryz.pinned : Pinned := { name := "ytgmfpgbgknlojaagreatdoor", sum := "d5a48e17be0dbe5bdbdabced0eeeaa8297372ae74e6a20b7fa3a213500bf4d63", checked := Tryz.checked }
namespace Rows
def none {H : Type} : Left H := { results := [], args := [] }

/- WHAT THE LISTED PACKAGE-LEVEL VARIABLES READ AS WHEN THE CALL BEGINS. Each datum BY PROGRAM (the guide's laid-datum.mjs) off the statement by which the dump's own 'gosem.cut.vars' lays the variable. In a bare row this is a premise. The card (YtgmfpgbgknlojaaGreatDoorCards.lean) ties it to the program's text. -/
def laid_unicode_utf8_acceptRanges {H : Type} : DataW H := .agg [.agg [.lit (.int .u8 128), .lit (.int .u8 191)], .agg [.lit (.int .u8 160), .lit (.int .u8 191)], .agg [.lit (.int .u8 128), .lit (.int .u8 159)], .agg [.lit (.int .u8 144), .lit (.int .u8 191)], .agg [.lit (.int .u8 128), .lit (.int .u8 143)], .agg [.lit (.int .u8 0), .lit (.int .u8 0)], .agg [.lit (.int .u8 0), .lit (.int .u8 0)], .agg [.lit (.int .u8 0), .lit (.int .u8 0)], .agg [.lit (.int .u8 0), .lit (.int .u8 0)], .agg [.lit (.int .u8 0), .lit (.int .u8 0)], .agg [.lit (.int .u8 0), .lit (.int .u8 0)], .agg [.lit (.int .u8 0), .lit (.int .u8 0)], .agg [.lit (.int .u8 0), .lit (.int .u8 0)], .agg [.lit (.int .u8 0), .lit (.int .u8 0)], .agg [.lit (.int .u8 0), .lit (.int .u8 0)], .agg [.lit (.int .u8 0), .lit (.int .u8 0)]]
/-- One of Go's own tables, pinned by name: the form's constant. -/
def laid_unicode_utf8_first : DataW Unit := Go.Pinned.utf8First

/-- 'laws.FnExactSelOk': WHATEVER THE INPUT: true; the input reads as it did. -/
def fnExactSelOkSpec : ChangeSpec := { name := "fnExactSelOk", fn := fun _ => fun
  | [d] => { results := [.lit (.bool true)], args := [d] }
  | _ => none }
def fnExactSelOkRow : OpenClaim := { program := "ytgmfpgbgknlojaagreatdoor", sum := "d5a48e17be0dbe5bdbdabced0eeeaa8297372ae74e6a20b7fa3a213500bf4d63", func := "loop.example/g00964/laws.FnExactSelOk", spec := "fnExactSelOk", inPlace := ["internal/bytealg.IndexByteString", "internal/bytealg.IndexString"], unfollowed := true, recurses := true, named := ["internal/bytealg.MaxLen", "unicode/utf8.first", "unicode/utf8.acceptRanges"], loops := true, apart := false, laid := [("unicode/utf8.acceptRanges", laid_unicode_utf8_acceptRanges), ("unicode/utf8.first", laid_unicode_utf8_first)] }
def FnExactSelOkSaid : Prop := fnExactSelOkRow.holds Tryz.pinned (OpenSpec.ofChange fnExactSelOkSpec)

/-- ITS FALSE NEIGHBOUR: 'it returns false'. Refute it at one input. -/
def fnExactSelOkWrong : ChangeSpec := { name := "fnExactSelOk", fn := fun _ => fun
  | [d] => { results := [.lit (.bool false)], args := [d] }
  | _ => none }
def FnExactSelOkWrongFalsely : Prop := fnExactSelOkRow.holds Tryz.pinned (OpenSpec.ofChange fnExactSelOkWrong)

/-- 'laws.FnExactFragOk': WHATEVER THE INPUT: true; the input reads as it did. -/
def fnExactFragOkSpec : ChangeSpec := { name := "fnExactFragOk", fn := fun _ => fun
  | [d] => { results := [.lit (.bool true)], args := [d] }
  | _ => none }
def fnExactFragOkRow : OpenClaim := { program := "ytgmfpgbgknlojaagreatdoor", sum := "d5a48e17be0dbe5bdbdabced0eeeaa8297372ae74e6a20b7fa3a213500bf4d63", func := "loop.example/g00964/laws.FnExactFragOk", spec := "fnExactFragOk", inPlace := ["internal/bytealg.IndexByteString", "internal/bytealg.IndexString"], unfollowed := true, recurses := true, named := ["internal/bytealg.MaxLen", "unicode/utf8.first", "unicode/utf8.acceptRanges"], loops := true, apart := false, laid := [("unicode/utf8.acceptRanges", laid_unicode_utf8_acceptRanges), ("unicode/utf8.first", laid_unicode_utf8_first)] }
def FnExactFragOkSaid : Prop := fnExactFragOkRow.holds Tryz.pinned (OpenSpec.ofChange fnExactFragOkSpec)

/-- ITS FALSE NEIGHBOUR: 'it returns false'. Refute it at one input. -/
def fnExactFragOkWrong : ChangeSpec := { name := "fnExactFragOk", fn := fun _ => fun
  | [d] => { results := [.lit (.bool false)], args := [d] }
  | _ => none }
def FnExactFragOkWrongFalsely : Prop := fnExactFragOkRow.holds Tryz.pinned (OpenSpec.ofChange fnExactFragOkWrong)

/-- 'laws.FnExactVarDefOk': WHATEVER THE INPUT: true; the input reads as it did. -/
def fnExactVarDefOkSpec : ChangeSpec := { name := "fnExactVarDefOk", fn := fun _ => fun
  | [d] => { results := [.lit (.bool true)], args := [d] }
  | _ => none }
def fnExactVarDefOkRow : OpenClaim := { program := "ytgmfpgbgknlojaagreatdoor", sum := "d5a48e17be0dbe5bdbdabced0eeeaa8297372ae74e6a20b7fa3a213500bf4d63", func := "loop.example/g00964/laws.FnExactVarDefOk", spec := "fnExactVarDefOk", inPlace := ["internal/bytealg.IndexByteString", "internal/bytealg.IndexString"], unfollowed := true, recurses := true, named := ["unicode/utf8.first", "unicode/utf8.acceptRanges", "internal/bytealg.MaxLen"], loops := true, apart := false, laid := [("unicode/utf8.acceptRanges", laid_unicode_utf8_acceptRanges), ("unicode/utf8.first", laid_unicode_utf8_first)] }
def FnExactVarDefOkSaid : Prop := fnExactVarDefOkRow.holds Tryz.pinned (OpenSpec.ofChange fnExactVarDefOkSpec)

/-- ITS FALSE NEIGHBOUR: 'it returns false'. Refute it at one input. -/
def fnExactVarDefOkWrong : ChangeSpec := { name := "fnExactVarDefOk", fn := fun _ => fun
  | [d] => { results := [.lit (.bool false)], args := [d] }
  | _ => none }
def FnExactVarDefOkWrongFalsely : Prop := fnExactVarDefOkRow.holds Tryz.pinned (OpenSpec.ofChange fnExactVarDefOkWrong)

/-- 'laws.FnExactOpOk': WHATEVER THE INPUT: true; the input reads as it did. -/
def fnExactOpOkSpec : ChangeSpec := { name := "fnExactOpOk", fn := fun _ => fun
  | [d] => { results := [.lit (.bool true)], args := [d] }
  | _ => none }
def fnExactOpOkRow : OpenClaim := { program := "ytgmfpgbgknlojaagreatdoor", sum := "d5a48e17be0dbe5bdbdabced0eeeaa8297372ae74e6a20b7fa3a213500bf4d63", func := "loop.example/g00964/laws.FnExactOpOk", spec := "fnExactOpOk", inPlace := ["internal/bytealg.IndexByteString", "internal/bytealg.IndexString"], unfollowed := true, recurses := true, named := ["unicode/utf8.first", "unicode/utf8.acceptRanges", "internal/bytealg.MaxLen"], loops := true, apart := false, laid := [("unicode/utf8.acceptRanges", laid_unicode_utf8_acceptRanges), ("unicode/utf8.first", laid_unicode_utf8_first)] }
def FnExactOpOkSaid : Prop := fnExactOpOkRow.holds Tryz.pinned (OpenSpec.ofChange fnExactOpOkSpec)

/-- ITS FALSE NEIGHBOUR: 'it returns false'. Refute it at one input. -/
def fnExactOpOkWrong : ChangeSpec := { name := "fnExactOpOk", fn := fun _ => fun
  | [d] => { results := [.lit (.bool false)], args := [d] }
  | _ => none }
def FnExactOpOkWrongFalsely : Prop := fnExactOpOkRow.holds Tryz.pinned (OpenSpec.ofChange fnExactOpOkWrong)

/- THE SECOND FORM. 'bulk': how many values and letters a reading holds, each counted each time it is reached (what is shared counts as often as it is met; a slice's spare places count too). A statement '..UptoSaid' is the law's where the arguments, and the package variables that the reading takes, are together of bulk at most 1048576: NARROWER than '..Said'. Prove '..Said' where nothing that the law and all that it calls make is longer than what came in: it says more and counts as full. Else prove '..UptoSaid'. A law counts once. -/
mutual
def uptoBulk {H : Type} : DataW H → Nat
  | .lit (.string bytes) => bytes.length + 1
  | .lit _ => 1
  | .nil => 1
  | .ptr d => uptoBulk d + 1
  | .slice elems spare => uptoBulkAll elems + uptoBulkAll spare + 1
  | .agg parts => uptoBulkAll parts + 1
  | .iface _ d => uptoBulk d + 1
  | .map entries => uptoBulkEntries entries + 1
  | .held _ => 1
def uptoBulkAll {H : Type} : List (DataW H) → Nat
  | [] => 0
  | d :: r => uptoBulk d + uptoBulkAll r
def uptoBulkEntries {H : Type} : List (Lit × DataW H) → Nat
  | [] => 0
  | x :: r => uptoBulkEntry x + uptoBulkEntries r
def uptoBulkEntry {H : Type} : Lit × DataW H → Nat
  | (.string bytes, d) => bytes.length + uptoBulk d + 1
  | (_, d) => uptoBulk d + 1
 end
def uptoSmall : (H : Type) → List (DataW H) → Bool := fun _ ds => decide (uptoBulkAll ds ≤ 1048576)
def OpenSpec.upto (s : _root_.Go.ChangeSpec) : _root_.Go.OpenSpec := { _root_.Go.OpenSpec.ofChange s with cond := some uptoSmall }

/-- 'laws.FnExactSelOk', WHERE WHAT IT READS IS OF BULK AT MOST 1048576: true; the input reads as it did. -/
def fnExactSelOkUptoRow : OpenClaim := { program := "ytgmfpgbgknlojaagreatdoor", sum := "d5a48e17be0dbe5bdbdabced0eeeaa8297372ae74e6a20b7fa3a213500bf4d63", func := "loop.example/g00964/laws.FnExactSelOk", spec := "fnExactSelOk", inPlace := ["internal/bytealg.IndexByteString", "internal/bytealg.IndexString"], unfollowed := true, recurses := true, named := ["internal/bytealg.MaxLen", "unicode/utf8.first", "unicode/utf8.acceptRanges"], loops := true, apart := false, laid := [("unicode/utf8.acceptRanges", laid_unicode_utf8_acceptRanges), ("unicode/utf8.first", laid_unicode_utf8_first)], narrowed := true }
def FnExactSelOkUptoSaid : Prop := fnExactSelOkUptoRow.holds Tryz.pinned (OpenSpec.upto fnExactSelOkSpec)

/-- 'laws.FnExactFragOk', WHERE WHAT IT READS IS OF BULK AT MOST 1048576: true; the input reads as it did. -/
def fnExactFragOkUptoRow : OpenClaim := { program := "ytgmfpgbgknlojaagreatdoor", sum := "d5a48e17be0dbe5bdbdabced0eeeaa8297372ae74e6a20b7fa3a213500bf4d63", func := "loop.example/g00964/laws.FnExactFragOk", spec := "fnExactFragOk", inPlace := ["internal/bytealg.IndexByteString", "internal/bytealg.IndexString"], unfollowed := true, recurses := true, named := ["internal/bytealg.MaxLen", "unicode/utf8.first", "unicode/utf8.acceptRanges"], loops := true, apart := false, laid := [("unicode/utf8.acceptRanges", laid_unicode_utf8_acceptRanges), ("unicode/utf8.first", laid_unicode_utf8_first)], narrowed := true }
def FnExactFragOkUptoSaid : Prop := fnExactFragOkUptoRow.holds Tryz.pinned (OpenSpec.upto fnExactFragOkSpec)

/-- 'laws.FnExactVarDefOk', WHERE WHAT IT READS IS OF BULK AT MOST 1048576: true; the input reads as it did. -/
def fnExactVarDefOkUptoRow : OpenClaim := { program := "ytgmfpgbgknlojaagreatdoor", sum := "d5a48e17be0dbe5bdbdabced0eeeaa8297372ae74e6a20b7fa3a213500bf4d63", func := "loop.example/g00964/laws.FnExactVarDefOk", spec := "fnExactVarDefOk", inPlace := ["internal/bytealg.IndexByteString", "internal/bytealg.IndexString"], unfollowed := true, recurses := true, named := ["unicode/utf8.first", "unicode/utf8.acceptRanges", "internal/bytealg.MaxLen"], loops := true, apart := false, laid := [("unicode/utf8.acceptRanges", laid_unicode_utf8_acceptRanges), ("unicode/utf8.first", laid_unicode_utf8_first)], narrowed := true }
def FnExactVarDefOkUptoSaid : Prop := fnExactVarDefOkUptoRow.holds Tryz.pinned (OpenSpec.upto fnExactVarDefOkSpec)

/-- 'laws.FnExactOpOk', WHERE WHAT IT READS IS OF BULK AT MOST 1048576: true; the input reads as it did. -/
def fnExactOpOkUptoRow : OpenClaim := { program := "ytgmfpgbgknlojaagreatdoor", sum := "d5a48e17be0dbe5bdbdabced0eeeaa8297372ae74e6a20b7fa3a213500bf4d63", func := "loop.example/g00964/laws.FnExactOpOk", spec := "fnExactOpOk", inPlace := ["internal/bytealg.IndexByteString", "internal/bytealg.IndexString"], unfollowed := true, recurses := true, named := ["unicode/utf8.first", "unicode/utf8.acceptRanges", "internal/bytealg.MaxLen"], loops := true, apart := false, laid := [("unicode/utf8.acceptRanges", laid_unicode_utf8_acceptRanges), ("unicode/utf8.first", laid_unicode_utf8_first)], narrowed := true }
def FnExactOpOkUptoSaid : Prop := fnExactOpOkUptoRow.holds Tryz.pinned (OpenSpec.upto fnExactOpOkSpec)

end Rows
end Go.Proofs.YtgmfpgbgknlojaaGreatDoor
