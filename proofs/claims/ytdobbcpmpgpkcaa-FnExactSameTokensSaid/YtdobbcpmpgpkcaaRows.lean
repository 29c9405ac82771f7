/-
  No cell of these rows narrows 'for every input' (looked for: loops, veiled, ifaces, maps, wideKeys, modest, calm, conditions, laid).
  DERIVED. THE GIVEN ROWS OF THIS SEAT. 6 by the template 'for every input the law returns true; each argument reads behind the call as it read before'; 0 by the template 'total and deterministic' (their statements: YtdobbcpmpgpkcaaTotals.lean).
  GIVEN WITH THE SEED: the statements are not yours to turn. If you find one false, say at which input.
  Laid BY PROGRAM, IN A SANDBOX (cutbox-rows.mjs): the forced cells as the released guide's own fill.sh prints them over the translation 2fdc921d25698703… (all of the seat's roots in one cut). By AI agents, Wed Nov 11 2026. No macro, syntax, notation, axiom, sorry.
-/
import Derived.Test.YtdobbcpmpgpkcaaChecked
import GoSem.Claim
import GoSem.ClaimJoined
import GoSem.ClaimMapViews
import Derived.JoinedTies
import Derived.KernelRfl
namespace Go.Proofs.Ytdobbcpmpgpkcaa
/- THE CELL 'sum', in the pinned program and in every row, IS THE sha256 OF THE DUMP (.gsa) THAT YtdobbcpmpgpkcaaProg.lean LOADS. Nothing in Lean hashes anything: it is a label: what it is worth is what the hold of that sum in a sandbox is worth. -/
noncomputable def Try.pinned : Pinned := { name := "ytdobbcpmpgpkcaa", sum := "2fdc921d25698703c2d23418cb46e0541d44234a88236d2aaf6aba5be47d15aa", checked := Try.checked }
namespace Rows
def none {H : Type} : Left H := { results := [], args := [] }

/-- 'laws.FnExactReserved': WHATEVER THE INPUT: true; the input reads as it did. -/
def fnExactReservedSpec : ChangeSpec := { name := "fnExactReserved", fn := fun _ => fun
  | [d] => { results := [.lit (.bool true)], args := [d] }
  | _ => none }
def fnExactReservedRow : OpenClaim := { program := "ytdobbcpmpgpkcaa", sum := "2fdc921d25698703c2d23418cb46e0541d44234a88236d2aaf6aba5be47d15aa", func := "loop.example/g00964/laws.FnExactReserved", spec := "fnExactReserved", apart := false }
def FnExactReservedSaid : Prop := fnExactReservedRow.holds Try.pinned (OpenSpec.ofChange fnExactReservedSpec)

/-- ITS FALSE NEIGHBOUR: 'it returns false'. Refute it at one input. -/
def fnExactReservedWrong : ChangeSpec := { name := "fnExactReserved", fn := fun _ => fun
  | [d] => { results := [.lit (.bool false)], args := [d] }
  | _ => none }
def FnExactReservedWrongFalsely : Prop := fnExactReservedRow.holds Try.pinned (OpenSpec.ofChange fnExactReservedWrong)

/-- 'laws.FnExactBuiltIn': WHATEVER THE INPUT: true; the input reads as it did. -/
def fnExactBuiltInSpec : ChangeSpec := { name := "fnExactBuiltIn", fn := fun _ => fun
  | [d] => { results := [.lit (.bool true)], args := [d] }
  | _ => none }
def fnExactBuiltInRow : OpenClaim := { program := "ytdobbcpmpgpkcaa", sum := "2fdc921d25698703c2d23418cb46e0541d44234a88236d2aaf6aba5be47d15aa", func := "loop.example/g00964/laws.FnExactBuiltIn", spec := "fnExactBuiltIn", apart := false }
def FnExactBuiltInSaid : Prop := fnExactBuiltInRow.holds Try.pinned (OpenSpec.ofChange fnExactBuiltInSpec)

/-- ITS FALSE NEIGHBOUR: 'it returns false'. Refute it at one input. -/
def fnExactBuiltInWrong : ChangeSpec := { name := "fnExactBuiltIn", fn := fun _ => fun
  | [d] => { results := [.lit (.bool false)], args := [d] }
  | _ => none }
def FnExactBuiltInWrongFalsely : Prop := fnExactBuiltInRow.holds Try.pinned (OpenSpec.ofChange fnExactBuiltInWrong)

/-- 'laws.FnExactPlaceOk': WHATEVER THE INPUT: true; the input reads as it did. -/
def fnExactPlaceOkSpec : ChangeSpec := { name := "fnExactPlaceOk", fn := fun _ => fun
  | [d] => { results := [.lit (.bool true)], args := [d] }
  | _ => none }
def fnExactPlaceOkRow : OpenClaim := { program := "ytdobbcpmpgpkcaa", sum := "2fdc921d25698703c2d23418cb46e0541d44234a88236d2aaf6aba5be47d15aa", func := "loop.example/g00964/laws.FnExactPlaceOk", spec := "fnExactPlaceOk", apart := false }
def FnExactPlaceOkSaid : Prop := fnExactPlaceOkRow.holds Try.pinned (OpenSpec.ofChange fnExactPlaceOkSpec)

/-- ITS FALSE NEIGHBOUR: 'it returns false'. Refute it at one input. -/
def fnExactPlaceOkWrong : ChangeSpec := { name := "fnExactPlaceOk", fn := fun _ => fun
  | [d] => { results := [.lit (.bool false)], args := [d] }
  | _ => none }
def FnExactPlaceOkWrongFalsely : Prop := fnExactPlaceOkRow.holds Try.pinned (OpenSpec.ofChange fnExactPlaceOkWrong)

/-- 'laws.FnExactOpWord': WHATEVER THE INPUT: true; the input reads as it did. -/
def fnExactOpWordSpec : ChangeSpec := { name := "fnExactOpWord", fn := fun _ => fun
  | [d] => { results := [.lit (.bool true)], args := [d] }
  | _ => none }
def fnExactOpWordRow : OpenClaim := { program := "ytdobbcpmpgpkcaa", sum := "2fdc921d25698703c2d23418cb46e0541d44234a88236d2aaf6aba5be47d15aa", func := "loop.example/g00964/laws.FnExactOpWord", spec := "fnExactOpWord", apart := false }
def FnExactOpWordSaid : Prop := fnExactOpWordRow.holds Try.pinned (OpenSpec.ofChange fnExactOpWordSpec)

/-- ITS FALSE NEIGHBOUR: 'it returns false'. Refute it at one input. -/
def fnExactOpWordWrong : ChangeSpec := { name := "fnExactOpWord", fn := fun _ => fun
  | [d] => { results := [.lit (.bool false)], args := [d] }
  | _ => none }
def FnExactOpWordWrongFalsely : Prop := fnExactOpWordRow.holds Try.pinned (OpenSpec.ofChange fnExactOpWordWrong)

/-- 'laws.FnExactApart': WHATEVER THE INPUT: true; the input reads as it did. -/
def fnExactApartSpec : ChangeSpec := { name := "fnExactApart", fn := fun _ => fun
  | [d1, d2] => { results := [.lit (.bool true)], args := [d1, d2] }
  | _ => none }
def fnExactApartRow : OpenClaim := { program := "ytdobbcpmpgpkcaa", sum := "2fdc921d25698703c2d23418cb46e0541d44234a88236d2aaf6aba5be47d15aa", func := "loop.example/g00964/laws.FnExactApart", spec := "fnExactApart", unfollowed := true, recurses := true, apart := false }
def FnExactApartSaid : Prop := fnExactApartRow.holds Try.pinned (OpenSpec.ofChange fnExactApartSpec)

/-- ITS FALSE NEIGHBOUR: 'it returns false'. Refute it at one input. -/
def fnExactApartWrong : ChangeSpec := { name := "fnExactApart", fn := fun _ => fun
  | [d1, d2] => { results := [.lit (.bool false)], args := [d1, d2] }
  | _ => none }
def FnExactApartWrongFalsely : Prop := fnExactApartRow.holds Try.pinned (OpenSpec.ofChange fnExactApartWrong)

/-- 'laws.FnExactSameTokens': WHATEVER THE INPUT: true; the input reads as it did. -/
def fnExactSameTokensSpec : ChangeSpec := { name := "fnExactSameTokens", fn := fun _ => fun
  | [d1, d2] => { results := [.lit (.bool true)], args := [d1, d2] }
  | _ => none }
def fnExactSameTokensRow : OpenClaim := { program := "ytdobbcpmpgpkcaa", sum := "2fdc921d25698703c2d23418cb46e0541d44234a88236d2aaf6aba5be47d15aa", func := "loop.example/g00964/laws.FnExactSameTokens", spec := "fnExactSameTokens", unfollowed := true, recurses := true, apart := false }
def FnExactSameTokensSaid : Prop := fnExactSameTokensRow.holds Try.pinned (OpenSpec.ofChange fnExactSameTokensSpec)

/-- ITS FALSE NEIGHBOUR: 'it returns false'. Refute it at one input. -/
def fnExactSameTokensWrong : ChangeSpec := { name := "fnExactSameTokens", fn := fun _ => fun
  | [d1, d2] => { results := [.lit (.bool false)], args := [d1, d2] }
  | _ => none }
def FnExactSameTokensWrongFalsely : Prop := fnExactSameTokensRow.holds Try.pinned (OpenSpec.ofChange fnExactSameTokensWrong)

/- THE SECOND FORM. 'bulk': how many values and letters a reading holds, each counted each time it is reached (what is shared counts as often as it is met; a slice's spare places count too). A statement '..UptoSaid' is the law's where the arguments, and the package variables that the reading takes, are together of bulk at most 1048576: NARROWER than '..Said'. Prove '..Said' where nothing that the law and all that it calls make is longer than what came in: it says more and counts as full. Else prove '..UptoSaid'. A law counts once. -/
mutual
def uptoBulk {H : Type} : DataW H → Nat
  | .lit (.string bytes) => bytes.length + 1
  | .lit _ => 1
  | .nil => 1
  | .ptr d => uptoBulk d + 1
  | .slice elems spare => uptoBulkAll elems + uptoBulkAll spare + 1
  | .agg parts => uptoBulkAll parts + 1
  | .iface _ d => uptoBulk d + 1
  | .map entries => uptoBulkEntries entries + 1
  | .held _ => 1
def uptoBulkAll {H : Type} : List (DataW H) → Nat
  | [] => 0
  | d :: r => uptoBulk d + uptoBulkAll r
def uptoBulkEntries {H : Type} : List (Lit × DataW H) → Nat
  | [] => 0
  | x :: r => uptoBulkEntry x + uptoBulkEntries r
def uptoBulkEntry {H : Type} : Lit × DataW H → Nat
  | (.string bytes, d) => bytes.length + uptoBulk d + 1
  | (_, d) => uptoBulk d + 1
 end
def uptoSmall : (H : Type) → List (DataW H) → Bool := fun _ ds => decide (uptoBulkAll ds ≤ 1048576)
def OpenSpec.upto (s : _root_.Go.ChangeSpec) : _root_.Go.OpenSpec := { _root_.Go.OpenSpec.ofChange s with cond := some uptoSmall }

/-- 'laws.FnExactReserved', WHERE WHAT IT READS IS OF BULK AT MOST 1048576: true; the input reads as it did. -/
def fnExactReservedUptoRow : OpenClaim := { program := "ytdobbcpmpgpkcaa", sum := "2fdc921d25698703c2d23418cb46e0541d44234a88236d2aaf6aba5be47d15aa", func := "loop.example/g00964/laws.FnExactReserved", spec := "fnExactReserved", apart := false, narrowed := true }
def FnExactReservedUptoSaid : Prop := fnExactReservedUptoRow.holds Try.pinned (OpenSpec.upto fnExactReservedSpec)

/-- 'laws.FnExactBuiltIn', WHERE WHAT IT READS IS OF BULK AT MOST 1048576: true; the input reads as it did. -/
def fnExactBuiltInUptoRow : OpenClaim := { program := "ytdobbcpmpgpkcaa", sum := "2fdc921d25698703c2d23418cb46e0541d44234a88236d2aaf6aba5be47d15aa", func := "loop.example/g00964/laws.FnExactBuiltIn", spec := "fnExactBuiltIn", apart := false, narrowed := true }
def FnExactBuiltInUptoSaid : Prop := fnExactBuiltInUptoRow.holds Try.pinned (OpenSpec.upto fnExactBuiltInSpec)

/-- 'laws.FnExactPlaceOk', WHERE WHAT IT READS IS OF BULK AT MOST 1048576: true; the input reads as it did. -/
def fnExactPlaceOkUptoRow : OpenClaim := { program := "ytdobbcpmpgpkcaa", sum := "2fdc921d25698703c2d23418cb46e0541d44234a88236d2aaf6aba5be47d15aa", func := "loop.example/g00964/laws.FnExactPlaceOk", spec := "fnExactPlaceOk", apart := false, narrowed := true }
def FnExactPlaceOkUptoSaid : Prop := fnExactPlaceOkUptoRow.holds Try.pinned (OpenSpec.upto fnExactPlaceOkSpec)

/-- 'laws.FnExactOpWord', WHERE WHAT IT READS IS OF BULK AT MOST 1048576: true; the input reads as it did. -/
def fnExactOpWordUptoRow : OpenClaim := { program := "ytdobbcpmpgpkcaa", sum := "2fdc921d25698703c2d23418cb46e0541d44234a88236d2aaf6aba5be47d15aa", func := "loop.example/g00964/laws.FnExactOpWord", spec := "fnExactOpWord", apart := false, narrowed := true }
def FnExactOpWordUptoSaid : Prop := fnExactOpWordUptoRow.holds Try.pinned (OpenSpec.upto fnExactOpWordSpec)

/-- 'laws.FnExactApart', WHERE WHAT IT READS IS OF BULK AT MOST 1048576: true; the input reads as it did. -/
def fnExactApartUptoRow : OpenClaim := { program := "ytdobbcpmpgpkcaa", sum := "2fdc921d25698703c2d23418cb46e0541d44234a88236d2aaf6aba5be47d15aa", func := "loop.example/g00964/laws.FnExactApart", spec := "fnExactApart", unfollowed := true, recurses := true, apart := false, narrowed := true }
def FnExactApartUptoSaid : Prop := fnExactApartUptoRow.holds Try.pinned (OpenSpec.upto fnExactApartSpec)

/-- 'laws.FnExactSameTokens', WHERE WHAT IT READS IS OF BULK AT MOST 1048576: true; the input reads as it did. -/
def fnExactSameTokensUptoRow : OpenClaim := { program := "ytdobbcpmpgpkcaa", sum := "2fdc921d25698703c2d23418cb46e0541d44234a88236d2aaf6aba5be47d15aa", func := "loop.example/g00964/laws.FnExactSameTokens", spec := "fnExactSameTokens", unfollowed := true, recurses := true, apart := false, narrowed := true }
def FnExactSameTokensUptoSaid : Prop := fnExactSameTokensUptoRow.holds Try.pinned (OpenSpec.upto fnExactSameTokensSpec)

end Rows
end Go.Proofs.Ytdobbcpmpgpkcaa
