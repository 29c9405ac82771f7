/-
  NARROWER THAN 'FOR EVERY INPUT', by the rows' own cells (each row's printed sentence says how): FnExactInAt: loops · FnExactRootOf: loops · FnExactTypeAt: loops · FnExactKindOf: loops · FnExactIsComposite: loops · FnExactIsInput: loops · FnExactIsLeaf: loops · FnExactIsOutput: loops · FnExactInCycle: loops · FnExactSubType: loops · FnExactSameSchema: loops · FnExactOverlap: loops.
  DERIVED. THE GIVEN ROWS OF THIS SEAT. 12 by the template 'for every input the law returns true; each argument reads behind the call as it read before'; 0 by the template 'total and deterministic' (their statements: YtciandfkncadgaaTotals.lean).
  GIVEN WITH THE SEED: the statements are not yours to turn. If you find one false, say at which input.
  Laid BY PROGRAM, IN A SANDBOX (cutbox-rows.mjs): the forced cells as the released guide's own fill.sh prints them over the translation b531719404c94cd0… (all of the seat's roots in one cut). By AI agents, Wed Nov 11 2026. No macro, syntax, notation, axiom, sorry.
-/
import Derived.Test.YtciandfkncadgaaChecked
import GoSem.Claim
import GoSem.ClaimJoined
import GoSem.ClaimMapViews
import Derived.JoinedTies
import Derived.KernelRfl
namespace Go.Proofs.Ytciandfkncadgaa
/- THE CELL 'sum', in the pinned program and in every row, IS THE sha256 OF THE DUMP (.gsa) THAT YtciandfkncadgaaProg.lean LOADS. Nothing in Lean hashes anything: it is a label: what it is worth is what the hold of that sum in a sandbox is worth. -/
noncomputable def Try.pinned : Pinned := { name := "ytciandfkncadgaa", sum := "b531719404c94cd086f941a72b5dcff9751f4e0b53c8ee71c3c87f53359d4a18", checked := Try.checked }
namespace Rows
def none {H : Type} : Left H := { results := [], args := [] }

/-- 'laws.FnExactInAt': WHATEVER THE INPUT: true; the input reads as it did. -/
def fnExactInAtSpec : ChangeSpec := { name := "fnExactInAt", fn := fun _ => fun
  | [d1, d2] => { results := [.lit (.bool true)], args := [d1, d2] }
  | _ => none }
def fnExactInAtRow : OpenClaim := { program := "ytciandfkncadgaa", sum := "b531719404c94cd086f941a72b5dcff9751f4e0b53c8ee71c3c87f53359d4a18", func := "loop.example/g00964/laws.FnExactInAt", spec := "fnExactInAt", unfollowed := true, recurses := true, loops := true, apart := false }
def FnExactInAtSaid : Prop := fnExactInAtRow.holds Try.pinned (OpenSpec.ofChange fnExactInAtSpec)

/-- ITS FALSE NEIGHBOUR: 'it returns false'. Refute it at one input. -/
def fnExactInAtWrong : ChangeSpec := { name := "fnExactInAt", fn := fun _ => fun
  | [d1, d2] => { results := [.lit (.bool false)], args := [d1, d2] }
  | _ => none }
def FnExactInAtWrongFalsely : Prop := fnExactInAtRow.holds Try.pinned (OpenSpec.ofChange fnExactInAtWrong)

/-- 'laws.FnExactRootOf': WHATEVER THE INPUT: true; the input reads as it did. -/
def fnExactRootOfSpec : ChangeSpec := { name := "fnExactRootOf", fn := fun _ => fun
  | [d1, d2] => { results := [.lit (.bool true)], args := [d1, d2] }
  | _ => none }
def fnExactRootOfRow : OpenClaim := { program := "ytciandfkncadgaa", sum := "b531719404c94cd086f941a72b5dcff9751f4e0b53c8ee71c3c87f53359d4a18", func := "loop.example/g00964/laws.FnExactRootOf", spec := "fnExactRootOf", recurses := true, loops := true, apart := false }
def FnExactRootOfSaid : Prop := fnExactRootOfRow.holds Try.pinned (OpenSpec.ofChange fnExactRootOfSpec)

/-- ITS FALSE NEIGHBOUR: 'it returns false'. Refute it at one input. -/
def fnExactRootOfWrong : ChangeSpec := { name := "fnExactRootOf", fn := fun _ => fun
  | [d1, d2] => { results := [.lit (.bool false)], args := [d1, d2] }
  | _ => none }
def FnExactRootOfWrongFalsely : Prop := fnExactRootOfRow.holds Try.pinned (OpenSpec.ofChange fnExactRootOfWrong)

/-- 'laws.FnExactTypeAt': WHATEVER THE INPUT: true; the input reads as it did. -/
def fnExactTypeAtSpec : ChangeSpec := { name := "fnExactTypeAt", fn := fun _ => fun
  | [d1, d2] => { results := [.lit (.bool true)], args := [d1, d2] }
  | _ => none }
def fnExactTypeAtRow : OpenClaim := { program := "ytciandfkncadgaa", sum := "b531719404c94cd086f941a72b5dcff9751f4e0b53c8ee71c3c87f53359d4a18", func := "loop.example/g00964/laws.FnExactTypeAt", spec := "fnExactTypeAt", unfollowed := true, recurses := true, loops := true, apart := false }
def FnExactTypeAtSaid : Prop := fnExactTypeAtRow.holds Try.pinned (OpenSpec.ofChange fnExactTypeAtSpec)

/-- ITS FALSE NEIGHBOUR: 'it returns false'. Refute it at one input. -/
def fnExactTypeAtWrong : ChangeSpec := { name := "fnExactTypeAt", fn := fun _ => fun
  | [d1, d2] => { results := [.lit (.bool false)], args := [d1, d2] }
  | _ => none }
def FnExactTypeAtWrongFalsely : Prop := fnExactTypeAtRow.holds Try.pinned (OpenSpec.ofChange fnExactTypeAtWrong)

/-- 'laws.FnExactKindOf': WHATEVER THE INPUT: true; the input reads as it did. -/
def fnExactKindOfSpec : ChangeSpec := { name := "fnExactKindOf", fn := fun _ => fun
  | [d1, d2] => { results := [.lit (.bool true)], args := [d1, d2] }
  | _ => none }
def fnExactKindOfRow : OpenClaim := { program := "ytciandfkncadgaa", sum := "b531719404c94cd086f941a72b5dcff9751f4e0b53c8ee71c3c87f53359d4a18", func := "loop.example/g00964/laws.FnExactKindOf", spec := "fnExactKindOf", unfollowed := true, recurses := true, loops := true, apart := false }
def FnExactKindOfSaid : Prop := fnExactKindOfRow.holds Try.pinned (OpenSpec.ofChange fnExactKindOfSpec)

/-- ITS FALSE NEIGHBOUR: 'it returns false'. Refute it at one input. -/
def fnExactKindOfWrong : ChangeSpec := { name := "fnExactKindOf", fn := fun _ => fun
  | [d1, d2] => { results := [.lit (.bool false)], args := [d1, d2] }
  | _ => none }
def FnExactKindOfWrongFalsely : Prop := fnExactKindOfRow.holds Try.pinned (OpenSpec.ofChange fnExactKindOfWrong)

/-- 'laws.FnExactIsComposite': WHATEVER THE INPUT: true; the input reads as it did. -/
def fnExactIsCompositeSpec : ChangeSpec := { name := "fnExactIsComposite", fn := fun _ => fun
  | [d1, d2] => { results := [.lit (.bool true)], args := [d1, d2] }
  | _ => none }
def fnExactIsCompositeRow : OpenClaim := { program := "ytciandfkncadgaa", sum := "b531719404c94cd086f941a72b5dcff9751f4e0b53c8ee71c3c87f53359d4a18", func := "loop.example/g00964/laws.FnExactIsComposite", spec := "fnExactIsComposite", unfollowed := true, recurses := true, loops := true, apart := false }
def FnExactIsCompositeSaid : Prop := fnExactIsCompositeRow.holds Try.pinned (OpenSpec.ofChange fnExactIsCompositeSpec)

/-- ITS FALSE NEIGHBOUR: 'it returns false'. Refute it at one input. -/
def fnExactIsCompositeWrong : ChangeSpec := { name := "fnExactIsComposite", fn := fun _ => fun
  | [d1, d2] => { results := [.lit (.bool false)], args := [d1, d2] }
  | _ => none }
def FnExactIsCompositeWrongFalsely : Prop := fnExactIsCompositeRow.holds Try.pinned (OpenSpec.ofChange fnExactIsCompositeWrong)

/-- 'laws.FnExactIsInput': WHATEVER THE INPUT: true; the input reads as it did. -/
def fnExactIsInputSpec : ChangeSpec := { name := "fnExactIsInput", fn := fun _ => fun
  | [d1, d2] => { results := [.lit (.bool true)], args := [d1, d2] }
  | _ => none }
def fnExactIsInputRow : OpenClaim := { program := "ytciandfkncadgaa", sum := "b531719404c94cd086f941a72b5dcff9751f4e0b53c8ee71c3c87f53359d4a18", func := "loop.example/g00964/laws.FnExactIsInput", spec := "fnExactIsInput", unfollowed := true, recurses := true, loops := true, apart := false }
def FnExactIsInputSaid : Prop := fnExactIsInputRow.holds Try.pinned (OpenSpec.ofChange fnExactIsInputSpec)

/-- ITS FALSE NEIGHBOUR: 'it returns false'. Refute it at one input. -/
def fnExactIsInputWrong : ChangeSpec := { name := "fnExactIsInput", fn := fun _ => fun
  | [d1, d2] => { results := [.lit (.bool false)], args := [d1, d2] }
  | _ => none }
def FnExactIsInputWrongFalsely : Prop := fnExactIsInputRow.holds Try.pinned (OpenSpec.ofChange fnExactIsInputWrong)

/-- 'laws.FnExactIsLeaf': WHATEVER THE INPUT: true; the input reads as it did. -/
def fnExactIsLeafSpec : ChangeSpec := { name := "fnExactIsLeaf", fn := fun _ => fun
  | [d1, d2] => { results := [.lit (.bool true)], args := [d1, d2] }
  | _ => none }
def fnExactIsLeafRow : OpenClaim := { program := "ytciandfkncadgaa", sum := "b531719404c94cd086f941a72b5dcff9751f4e0b53c8ee71c3c87f53359d4a18", func := "loop.example/g00964/laws.FnExactIsLeaf", spec := "fnExactIsLeaf", unfollowed := true, recurses := true, loops := true, apart := false }
def FnExactIsLeafSaid : Prop := fnExactIsLeafRow.holds Try.pinned (OpenSpec.ofChange fnExactIsLeafSpec)

/-- ITS FALSE NEIGHBOUR: 'it returns false'. Refute it at one input. -/
def fnExactIsLeafWrong : ChangeSpec := { name := "fnExactIsLeaf", fn := fun _ => fun
  | [d1, d2] => { results := [.lit (.bool false)], args := [d1, d2] }
  | _ => none }
def FnExactIsLeafWrongFalsely : Prop := fnExactIsLeafRow.holds Try.pinned (OpenSpec.ofChange fnExactIsLeafWrong)

/-- 'laws.FnExactIsOutput': WHATEVER THE INPUT: true; the input reads as it did. -/
def fnExactIsOutputSpec : ChangeSpec := { name := "fnExactIsOutput", fn := fun _ => fun
  | [d1, d2] => { results := [.lit (.bool true)], args := [d1, d2] }
  | _ => none }
def fnExactIsOutputRow : OpenClaim := { program := "ytciandfkncadgaa", sum := "b531719404c94cd086f941a72b5dcff9751f4e0b53c8ee71c3c87f53359d4a18", func := "loop.example/g00964/laws.FnExactIsOutput", spec := "fnExactIsOutput", unfollowed := true, recurses := true, loops := true, apart := false }
def FnExactIsOutputSaid : Prop := fnExactIsOutputRow.holds Try.pinned (OpenSpec.ofChange fnExactIsOutputSpec)

/-- ITS FALSE NEIGHBOUR: 'it returns false'. Refute it at one input. -/
def fnExactIsOutputWrong : ChangeSpec := { name := "fnExactIsOutput", fn := fun _ => fun
  | [d1, d2] => { results := [.lit (.bool false)], args := [d1, d2] }
  | _ => none }
def FnExactIsOutputWrongFalsely : Prop := fnExactIsOutputRow.holds Try.pinned (OpenSpec.ofChange fnExactIsOutputWrong)

/-- 'laws.FnExactInCycle': WHATEVER THE INPUT: true; the input reads as it did. -/
def fnExactInCycleSpec : ChangeSpec := { name := "fnExactInCycle", fn := fun _ => fun
  | [d1, d2] => { results := [.lit (.bool true)], args := [d1, d2] }
  | _ => none }
def fnExactInCycleRow : OpenClaim := { program := "ytciandfkncadgaa", sum := "b531719404c94cd086f941a72b5dcff9751f4e0b53c8ee71c3c87f53359d4a18", func := "loop.example/g00964/laws.FnExactInCycle", spec := "fnExactInCycle", unfollowed := true, recurses := true, loops := true, apart := false }
def FnExactInCycleSaid : Prop := fnExactInCycleRow.holds Try.pinned (OpenSpec.ofChange fnExactInCycleSpec)

/-- ITS FALSE NEIGHBOUR: 'it returns false'. Refute it at one input. -/
def fnExactInCycleWrong : ChangeSpec := { name := "fnExactInCycle", fn := fun _ => fun
  | [d1, d2] => { results := [.lit (.bool false)], args := [d1, d2] }
  | _ => none }
def FnExactInCycleWrongFalsely : Prop := fnExactInCycleRow.holds Try.pinned (OpenSpec.ofChange fnExactInCycleWrong)

/-- 'laws.FnExactSubType': WHATEVER THE INPUT: true; the input reads as it did. -/
def fnExactSubTypeSpec : ChangeSpec := { name := "fnExactSubType", fn := fun _ => fun
  | [d1, d2, d3] => { results := [.lit (.bool true)], args := [d1, d2, d3] }
  | _ => none }
def fnExactSubTypeRow : OpenClaim := { program := "ytciandfkncadgaa", sum := "b531719404c94cd086f941a72b5dcff9751f4e0b53c8ee71c3c87f53359d4a18", func := "loop.example/g00964/laws.FnExactSubType", spec := "fnExactSubType", unfollowed := true, recurses := true, loops := true, apart := false }
def FnExactSubTypeSaid : Prop := fnExactSubTypeRow.holds Try.pinned (OpenSpec.ofChange fnExactSubTypeSpec)

/-- ITS FALSE NEIGHBOUR: 'it returns false'. Refute it at one input. -/
def fnExactSubTypeWrong : ChangeSpec := { name := "fnExactSubType", fn := fun _ => fun
  | [d1, d2, d3] => { results := [.lit (.bool false)], args := [d1, d2, d3] }
  | _ => none }
def FnExactSubTypeWrongFalsely : Prop := fnExactSubTypeRow.holds Try.pinned (OpenSpec.ofChange fnExactSubTypeWrong)

/-- 'laws.FnExactSameSchema': WHATEVER THE INPUT: true; the input reads as it did. -/
def fnExactSameSchemaSpec : ChangeSpec := { name := "fnExactSameSchema", fn := fun _ => fun
  | [d1, d2] => { results := [.lit (.bool true)], args := [d1, d2] }
  | _ => none }
def fnExactSameSchemaRow : OpenClaim := { program := "ytciandfkncadgaa", sum := "b531719404c94cd086f941a72b5dcff9751f4e0b53c8ee71c3c87f53359d4a18", func := "loop.example/g00964/laws.FnExactSameSchema", spec := "fnExactSameSchema", unfollowed := true, recurses := true, loops := true, apart := false }
def FnExactSameSchemaSaid : Prop := fnExactSameSchemaRow.holds Try.pinned (OpenSpec.ofChange fnExactSameSchemaSpec)

/-- ITS FALSE NEIGHBOUR: 'it returns false'. Refute it at one input. -/
def fnExactSameSchemaWrong : ChangeSpec := { name := "fnExactSameSchema", fn := fun _ => fun
  | [d1, d2] => { results := [.lit (.bool false)], args := [d1, d2] }
  | _ => none }
def FnExactSameSchemaWrongFalsely : Prop := fnExactSameSchemaRow.holds Try.pinned (OpenSpec.ofChange fnExactSameSchemaWrong)

/-- 'laws.FnExactOverlap': WHATEVER THE INPUT: true; the input reads as it did. -/
def fnExactOverlapSpec : ChangeSpec := { name := "fnExactOverlap", fn := fun _ => fun
  | [d1, d2, d3] => { results := [.lit (.bool true)], args := [d1, d2, d3] }
  | _ => none }
def fnExactOverlapRow : OpenClaim := { program := "ytciandfkncadgaa", sum := "b531719404c94cd086f941a72b5dcff9751f4e0b53c8ee71c3c87f53359d4a18", func := "loop.example/g00964/laws.FnExactOverlap", spec := "fnExactOverlap", unfollowed := true, recurses := true, loops := true, apart := false }
def FnExactOverlapSaid : Prop := fnExactOverlapRow.holds Try.pinned (OpenSpec.ofChange fnExactOverlapSpec)

/-- ITS FALSE NEIGHBOUR: 'it returns false'. Refute it at one input. -/
def fnExactOverlapWrong : ChangeSpec := { name := "fnExactOverlap", fn := fun _ => fun
  | [d1, d2, d3] => { results := [.lit (.bool false)], args := [d1, d2, d3] }
  | _ => none }
def FnExactOverlapWrongFalsely : Prop := fnExactOverlapRow.holds Try.pinned (OpenSpec.ofChange fnExactOverlapWrong)

/- THE SECOND FORM. 'bulk': how many values and letters a reading holds, each counted each time it is reached (what is shared counts as often as it is met; a slice's spare places count too). A statement '..UptoSaid' is the law's where the arguments, and the package variables that the reading takes, are together of bulk at most 1048576: NARROWER than '..Said'. Prove '..Said' where nothing that the law and all that it calls make is longer than what came in: it says more and counts as full. Else prove '..UptoSaid'. A law counts once. -/
mutual
def uptoBulk {H : Type} : DataW H → Nat
  | .lit (.string bytes) => bytes.length + 1
  | .lit _ => 1
  | .nil => 1
  | .ptr d => uptoBulk d + 1
  | .slice elems spare => uptoBulkAll elems + uptoBulkAll spare + 1
  | .agg parts => uptoBulkAll parts + 1
  | .iface _ d => uptoBulk d + 1
  | .map entries => uptoBulkEntries entries + 1
  | .held _ => 1
def uptoBulkAll {H : Type} : List (DataW H) → Nat
  | [] => 0
  | d :: r => uptoBulk d + uptoBulkAll r
def uptoBulkEntries {H : Type} : List (Lit × DataW H) → Nat
  | [] => 0
  | x :: r => uptoBulkEntry x + uptoBulkEntries r
def uptoBulkEntry {H : Type} : Lit × DataW H → Nat
  | (.string bytes, d) => bytes.length + uptoBulk d + 1
  | (_, d) => uptoBulk d + 1
 end
def uptoSmall : (H : Type) → List (DataW H) → Bool := fun _ ds => decide (uptoBulkAll ds ≤ 1048576)
def OpenSpec.upto (s : _root_.Go.ChangeSpec) : _root_.Go.OpenSpec := { _root_.Go.OpenSpec.ofChange s with cond := some uptoSmall }

/-- 'laws.FnExactInAt', WHERE WHAT IT READS IS OF BULK AT MOST 1048576: true; the input reads as it did. -/
def fnExactInAtUptoRow : OpenClaim := { program := "ytciandfkncadgaa", sum := "b531719404c94cd086f941a72b5dcff9751f4e0b53c8ee71c3c87f53359d4a18", func := "loop.example/g00964/laws.FnExactInAt", spec := "fnExactInAt", unfollowed := true, recurses := true, loops := true, apart := false, narrowed := true }
def FnExactInAtUptoSaid : Prop := fnExactInAtUptoRow.holds Try.pinned (OpenSpec.upto fnExactInAtSpec)

/-- 'laws.FnExactRootOf', WHERE WHAT IT READS IS OF BULK AT MOST 1048576: true; the input reads as it did. -/
def fnExactRootOfUptoRow : OpenClaim := { program := "ytciandfkncadgaa", sum := "b531719404c94cd086f941a72b5dcff9751f4e0b53c8ee71c3c87f53359d4a18", func := "loop.example/g00964/laws.FnExactRootOf", spec := "fnExactRootOf", recurses := true, loops := true, apart := false, narrowed := true }
def FnExactRootOfUptoSaid : Prop := fnExactRootOfUptoRow.holds Try.pinned (OpenSpec.upto fnExactRootOfSpec)

/-- 'laws.FnExactTypeAt', WHERE WHAT IT READS IS OF BULK AT MOST 1048576: true; the input reads as it did. -/
def fnExactTypeAtUptoRow : OpenClaim := { program := "ytciandfkncadgaa", sum := "b531719404c94cd086f941a72b5dcff9751f4e0b53c8ee71c3c87f53359d4a18", func := "loop.example/g00964/laws.FnExactTypeAt", spec := "fnExactTypeAt", unfollowed := true, recurses := true, loops := true, apart := false, narrowed := true }
def FnExactTypeAtUptoSaid : Prop := fnExactTypeAtUptoRow.holds Try.pinned (OpenSpec.upto fnExactTypeAtSpec)

/-- 'laws.FnExactKindOf', WHERE WHAT IT READS IS OF BULK AT MOST 1048576: true; the input reads as it did. -/
def fnExactKindOfUptoRow : OpenClaim := { program := "ytciandfkncadgaa", sum := "b531719404c94cd086f941a72b5dcff9751f4e0b53c8ee71c3c87f53359d4a18", func := "loop.example/g00964/laws.FnExactKindOf", spec := "fnExactKindOf", unfollowed := true, recurses := true, loops := true, apart := false, narrowed := true }
def FnExactKindOfUptoSaid : Prop := fnExactKindOfUptoRow.holds Try.pinned (OpenSpec.upto fnExactKindOfSpec)

/-- 'laws.FnExactIsComposite', WHERE WHAT IT READS IS OF BULK AT MOST 1048576: true; the input reads as it did. -/
def fnExactIsCompositeUptoRow : OpenClaim := { program := "ytciandfkncadgaa", sum := "b531719404c94cd086f941a72b5dcff9751f4e0b53c8ee71c3c87f53359d4a18", func := "loop.example/g00964/laws.FnExactIsComposite", spec := "fnExactIsComposite", unfollowed := true, recurses := true, loops := true, apart := false, narrowed := true }
def FnExactIsCompositeUptoSaid : Prop := fnExactIsCompositeUptoRow.holds Try.pinned (OpenSpec.upto fnExactIsCompositeSpec)

/-- 'laws.FnExactIsInput', WHERE WHAT IT READS IS OF BULK AT MOST 1048576: true; the input reads as it did. -/
def fnExactIsInputUptoRow : OpenClaim := { program := "ytciandfkncadgaa", sum := "b531719404c94cd086f941a72b5dcff9751f4e0b53c8ee71c3c87f53359d4a18", func := "loop.example/g00964/laws.FnExactIsInput", spec := "fnExactIsInput", unfollowed := true, recurses := true, loops := true, apart := false, narrowed := true }
def FnExactIsInputUptoSaid : Prop := fnExactIsInputUptoRow.holds Try.pinned (OpenSpec.upto fnExactIsInputSpec)

/-- 'laws.FnExactIsLeaf', WHERE WHAT IT READS IS OF BULK AT MOST 1048576: true; the input reads as it did. -/
def fnExactIsLeafUptoRow : OpenClaim := { program := "ytciandfkncadgaa", sum := "b531719404c94cd086f941a72b5dcff9751f4e0b53c8ee71c3c87f53359d4a18", func := "loop.example/g00964/laws.FnExactIsLeaf", spec := "fnExactIsLeaf", unfollowed := true, recurses := true, loops := true, apart := false, narrowed := true }
def FnExactIsLeafUptoSaid : Prop := fnExactIsLeafUptoRow.holds Try.pinned (OpenSpec.upto fnExactIsLeafSpec)

/-- 'laws.FnExactIsOutput', WHERE WHAT IT READS IS OF BULK AT MOST 1048576: true; the input reads as it did. -/
def fnExactIsOutputUptoRow : OpenClaim := { program := "ytciandfkncadgaa", sum := "b531719404c94cd086f941a72b5dcff9751f4e0b53c8ee71c3c87f53359d4a18", func := "loop.example/g00964/laws.FnExactIsOutput", spec := "fnExactIsOutput", unfollowed := true, recurses := true, loops := true, apart := false, narrowed := true }
def FnExactIsOutputUptoSaid : Prop := fnExactIsOutputUptoRow.holds Try.pinned (OpenSpec.upto fnExactIsOutputSpec)

/-- 'laws.FnExactInCycle', WHERE WHAT IT READS IS OF BULK AT MOST 1048576: true; the input reads as it did. -/
def fnExactInCycleUptoRow : OpenClaim := { program := "ytciandfkncadgaa", sum := "b531719404c94cd086f941a72b5dcff9751f4e0b53c8ee71c3c87f53359d4a18", func := "loop.example/g00964/laws.FnExactInCycle", spec := "fnExactInCycle", unfollowed := true, recurses := true, loops := true, apart := false, narrowed := true }
def FnExactInCycleUptoSaid : Prop := fnExactInCycleUptoRow.holds Try.pinned (OpenSpec.upto fnExactInCycleSpec)

/-- 'laws.FnExactSubType', WHERE WHAT IT READS IS OF BULK AT MOST 1048576: true; the input reads as it did. -/
def fnExactSubTypeUptoRow : OpenClaim := { program := "ytciandfkncadgaa", sum := "b531719404c94cd086f941a72b5dcff9751f4e0b53c8ee71c3c87f53359d4a18", func := "loop.example/g00964/laws.FnExactSubType", spec := "fnExactSubType", unfollowed := true, recurses := true, loops := true, apart := false, narrowed := true }
def FnExactSubTypeUptoSaid : Prop := fnExactSubTypeUptoRow.holds Try.pinned (OpenSpec.upto fnExactSubTypeSpec)

/-- 'laws.FnExactSameSchema', WHERE WHAT IT READS IS OF BULK AT MOST 1048576: true; the input reads as it did. -/
def fnExactSameSchemaUptoRow : OpenClaim := { program := "ytciandfkncadgaa", sum := "b531719404c94cd086f941a72b5dcff9751f4e0b53c8ee71c3c87f53359d4a18", func := "loop.example/g00964/laws.FnExactSameSchema", spec := "fnExactSameSchema", unfollowed := true, recurses := true, loops := true, apart := false, narrowed := true }
def FnExactSameSchemaUptoSaid : Prop := fnExactSameSchemaUptoRow.holds Try.pinned (OpenSpec.upto fnExactSameSchemaSpec)

/-- 'laws.FnExactOverlap', WHERE WHAT IT READS IS OF BULK AT MOST 1048576: true; the input reads as it did. -/
def fnExactOverlapUptoRow : OpenClaim := { program := "ytciandfkncadgaa", sum := "b531719404c94cd086f941a72b5dcff9751f4e0b53c8ee71c3c87f53359d4a18", func := "loop.example/g00964/laws.FnExactOverlap", spec := "fnExactOverlap", unfollowed := true, recurses := true, loops := true, apart := false, narrowed := true }
def FnExactOverlapUptoSaid : Prop := fnExactOverlapUptoRow.holds Try.pinned (OpenSpec.upto fnExactOverlapSpec)

end Rows
end Go.Proofs.Ytciandfkncadgaa
