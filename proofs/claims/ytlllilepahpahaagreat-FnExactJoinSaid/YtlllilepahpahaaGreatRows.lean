/-
  NARROWER THAN 'FOR EVERY INPUT', by the rows' own cells (each row's printed sentence says how): FnExactFieldAt: loops · FnExactJoin: loops · FnExactPossibleOf: loops · FnExactSortDefs: loops · FnExactSchemaOf: loops.
  DERIVED. THE GIVEN ROWS OF THIS SEAT. 5 by the template 'for every input the law returns true; each argument reads behind the call as it read before'; 0 by the template 'total and deterministic' (their statements: YtlllilepahpahaaGreatTotals.lean).
  GIVEN WITH THE SEED: the statements are not yours to turn. If you find one false, say at which input.
  Laid BY PROGRAM, IN A SANDBOX (cutbox-rows.mjs): the forced cells as the released guide's own fill.sh prints them over the translation 0b69385ec2052aa4… (all of the seat's roots in one cut). By AI agents, Wed Nov 11 2026. No macro, syntax, notation, axiom, sorry.
-/
import Derived.Test.YtlllilepahpahaaGreatChecked
import GoSem.Claim
import GoSem.ClaimJoined
import GoSem.ClaimMapViews
import Derived.JoinedTies
import Derived.KernelRfl
namespace Go.Proofs.YtlllilepahpahaaGreat
/- THE CELL 'sum', in the pinned program and in every row, IS THE sha256 OF THE DUMP (.gsa) THAT YtlllilepahpahaaGreatProg.lean LOADS. Nothing in Lean hashes anything: it is a label: what it is worth is what the hold of that sum in a sandbox is worth. -/
noncomputable def Tryz.pinned : Pinned := { name := "ytlllilepahpahaagreat", sum := "0b69385ec2052aa43d8ad3c3b323b55d444fba9bfa0d1f7200682b4e54dcc109", checked := Tryz.checked }
namespace Rows
def none {H : Type} : Left H := { results := [], args := [] }

/-- 'laws.FnExactFieldAt': WHATEVER THE INPUT: true; the input reads as it did. -/
def fnExactFieldAtSpec : ChangeSpec := { name := "fnExactFieldAt", fn := fun _ => fun
  | [d1, d2, d3] => { results := [.lit (.bool true)], args := [d1, d2, d3] }
  | _ => none }
def fnExactFieldAtRow : OpenClaim := { program := "ytlllilepahpahaagreat", sum := "0b69385ec2052aa43d8ad3c3b323b55d444fba9bfa0d1f7200682b4e54dcc109", func := "loop.example/g00964/laws.FnExactFieldAt", spec := "fnExactFieldAt", unfollowed := true, recurses := true, loops := true, apart := false }
def FnExactFieldAtSaid : Prop := fnExactFieldAtRow.holds Tryz.pinned (OpenSpec.ofChange fnExactFieldAtSpec)

/-- ITS FALSE NEIGHBOUR: 'it returns false'. Refute it at one input. -/
def fnExactFieldAtWrong : ChangeSpec := { name := "fnExactFieldAt", fn := fun _ => fun
  | [d1, d2, d3] => { results := [.lit (.bool false)], args := [d1, d2, d3] }
  | _ => none }
def FnExactFieldAtWrongFalsely : Prop := fnExactFieldAtRow.holds Tryz.pinned (OpenSpec.ofChange fnExactFieldAtWrong)

/-- 'laws.FnExactJoin': WHATEVER THE INPUT: true; the input reads as it did. -/
def fnExactJoinSpec : ChangeSpec := { name := "fnExactJoin", fn := fun _ => fun
  | [d] => { results := [.lit (.bool true)], args := [d] }
  | _ => none }
def fnExactJoinRow : OpenClaim := { program := "ytlllilepahpahaagreat", sum := "0b69385ec2052aa43d8ad3c3b323b55d444fba9bfa0d1f7200682b4e54dcc109", func := "loop.example/g00964/laws.FnExactJoin", spec := "fnExactJoin", unfollowed := true, recurses := true, loops := true, apart := false }
def FnExactJoinSaid : Prop := fnExactJoinRow.holds Tryz.pinned (OpenSpec.ofChange fnExactJoinSpec)

/-- ITS FALSE NEIGHBOUR: 'it returns false'. Refute it at one input. -/
def fnExactJoinWrong : ChangeSpec := { name := "fnExactJoin", fn := fun _ => fun
  | [d] => { results := [.lit (.bool false)], args := [d] }
  | _ => none }
def FnExactJoinWrongFalsely : Prop := fnExactJoinRow.holds Tryz.pinned (OpenSpec.ofChange fnExactJoinWrong)

/-- 'laws.FnExactPossibleOf': WHATEVER THE INPUT: true; the input reads as it did. -/
def fnExactPossibleOfSpec : ChangeSpec := { name := "fnExactPossibleOf", fn := fun _ => fun
  | [d1, d2] => { results := [.lit (.bool true)], args := [d1, d2] }
  | _ => none }
def fnExactPossibleOfRow : OpenClaim := { program := "ytlllilepahpahaagreat", sum := "0b69385ec2052aa43d8ad3c3b323b55d444fba9bfa0d1f7200682b4e54dcc109", func := "loop.example/g00964/laws.FnExactPossibleOf", spec := "fnExactPossibleOf", unfollowed := true, recurses := true, loops := true, apart := false }
def FnExactPossibleOfSaid : Prop := fnExactPossibleOfRow.holds Tryz.pinned (OpenSpec.ofChange fnExactPossibleOfSpec)

/-- ITS FALSE NEIGHBOUR: 'it returns false'. Refute it at one input. -/
def fnExactPossibleOfWrong : ChangeSpec := { name := "fnExactPossibleOf", fn := fun _ => fun
  | [d1, d2] => { results := [.lit (.bool false)], args := [d1, d2] }
  | _ => none }
def FnExactPossibleOfWrongFalsely : Prop := fnExactPossibleOfRow.holds Tryz.pinned (OpenSpec.ofChange fnExactPossibleOfWrong)

/-- 'laws.FnExactSortDefs': WHATEVER THE INPUT: true; the input reads as it did. -/
def fnExactSortDefsSpec : ChangeSpec := { name := "fnExactSortDefs", fn := fun _ => fun
  | [d] => { results := [.lit (.bool true)], args := [d] }
  | _ => none }
def fnExactSortDefsRow : OpenClaim := { program := "ytlllilepahpahaagreat", sum := "0b69385ec2052aa43d8ad3c3b323b55d444fba9bfa0d1f7200682b4e54dcc109", func := "loop.example/g00964/laws.FnExactSortDefs", spec := "fnExactSortDefs", inPlace := ["internal/bytealg.abigen_runtime_cmpstring"], unfollowed := true, recurses := true, loops := true, apart := false }
def FnExactSortDefsSaid : Prop := fnExactSortDefsRow.holds Tryz.pinned (OpenSpec.ofChange fnExactSortDefsSpec)

/-- ITS FALSE NEIGHBOUR: 'it returns false'. Refute it at one input. -/
def fnExactSortDefsWrong : ChangeSpec := { name := "fnExactSortDefs", fn := fun _ => fun
  | [d] => { results := [.lit (.bool false)], args := [d] }
  | _ => none }
def FnExactSortDefsWrongFalsely : Prop := fnExactSortDefsRow.holds Tryz.pinned (OpenSpec.ofChange fnExactSortDefsWrong)

/-- 'laws.FnExactSchemaOf': WHATEVER THE INPUT: true; the input reads as it did. -/
def fnExactSchemaOfSpec : ChangeSpec := { name := "fnExactSchemaOf", fn := fun _ => fun
  | [d] => { results := [.lit (.bool true)], args := [d] }
  | _ => none }
def fnExactSchemaOfRow : OpenClaim := { program := "ytlllilepahpahaagreat", sum := "0b69385ec2052aa43d8ad3c3b323b55d444fba9bfa0d1f7200682b4e54dcc109", func := "loop.example/g00964/laws.FnExactSchemaOf", spec := "fnExactSchemaOf", inPlace := ["internal/bytealg.abigen_runtime_cmpstring"], unfollowed := true, recurses := true, loops := true, apart := false }
def FnExactSchemaOfSaid : Prop := fnExactSchemaOfRow.holds Tryz.pinned (OpenSpec.ofChange fnExactSchemaOfSpec)

/-- ITS FALSE NEIGHBOUR: 'it returns false'. Refute it at one input. -/
def fnExactSchemaOfWrong : ChangeSpec := { name := "fnExactSchemaOf", fn := fun _ => fun
  | [d] => { results := [.lit (.bool false)], args := [d] }
  | _ => none }
def FnExactSchemaOfWrongFalsely : Prop := fnExactSchemaOfRow.holds Tryz.pinned (OpenSpec.ofChange fnExactSchemaOfWrong)

/- THE SECOND FORM. 'bulk': how many values and letters a reading holds, each counted each time it is reached (what is shared counts as often as it is met; a slice's spare places count too). A statement '..UptoSaid' is the law's where the arguments, and the package variables that the reading takes, are together of bulk at most 1048576: NARROWER than '..Said'. Prove '..Said' where nothing that the law and all that it calls make is longer than what came in: it says more and counts as full. Else prove '..UptoSaid'. A law counts once. -/
mutual
def uptoBulk {H : Type} : DataW H → Nat
  | .lit (.string bytes) => bytes.length + 1
  | .lit _ => 1
  | .nil => 1
  | .ptr d => uptoBulk d + 1
  | .slice elems spare => uptoBulkAll elems + uptoBulkAll spare + 1
  | .agg parts => uptoBulkAll parts + 1
  | .iface _ d => uptoBulk d + 1
  | .map entries => uptoBulkEntries entries + 1
  | .held _ => 1
def uptoBulkAll {H : Type} : List (DataW H) → Nat
  | [] => 0
  | d :: r => uptoBulk d + uptoBulkAll r
def uptoBulkEntries {H : Type} : List (Lit × DataW H) → Nat
  | [] => 0
  | x :: r => uptoBulkEntry x + uptoBulkEntries r
def uptoBulkEntry {H : Type} : Lit × DataW H → Nat
  | (.string bytes, d) => bytes.length + uptoBulk d + 1
  | (_, d) => uptoBulk d + 1
 end
def uptoSmall : (H : Type) → List (DataW H) → Bool := fun _ ds => decide (uptoBulkAll ds ≤ 1048576)
def OpenSpec.upto (s : _root_.Go.ChangeSpec) : _root_.Go.OpenSpec := { _root_.Go.OpenSpec.ofChange s with cond := some uptoSmall }

/-- 'laws.FnExactFieldAt', WHERE WHAT IT READS IS OF BULK AT MOST 1048576: true; the input reads as it did. -/
def fnExactFieldAtUptoRow : OpenClaim := { program := "ytlllilepahpahaagreat", sum := "0b69385ec2052aa43d8ad3c3b323b55d444fba9bfa0d1f7200682b4e54dcc109", func := "loop.example/g00964/laws.FnExactFieldAt", spec := "fnExactFieldAt", unfollowed := true, recurses := true, loops := true, apart := false, narrowed := true }
def FnExactFieldAtUptoSaid : Prop := fnExactFieldAtUptoRow.holds Tryz.pinned (OpenSpec.upto fnExactFieldAtSpec)

/-- 'laws.FnExactJoin', WHERE WHAT IT READS IS OF BULK AT MOST 1048576: true; the input reads as it did. -/
def fnExactJoinUptoRow : OpenClaim := { program := "ytlllilepahpahaagreat", sum := "0b69385ec2052aa43d8ad3c3b323b55d444fba9bfa0d1f7200682b4e54dcc109", func := "loop.example/g00964/laws.FnExactJoin", spec := "fnExactJoin", unfollowed := true, recurses := true, loops := true, apart := false, narrowed := true }
def FnExactJoinUptoSaid : Prop := fnExactJoinUptoRow.holds Tryz.pinned (OpenSpec.upto fnExactJoinSpec)

/-- 'laws.FnExactPossibleOf', WHERE WHAT IT READS IS OF BULK AT MOST 1048576: true; the input reads as it did. -/
def fnExactPossibleOfUptoRow : OpenClaim := { program := "ytlllilepahpahaagreat", sum := "0b69385ec2052aa43d8ad3c3b323b55d444fba9bfa0d1f7200682b4e54dcc109", func := "loop.example/g00964/laws.FnExactPossibleOf", spec := "fnExactPossibleOf", unfollowed := true, recurses := true, loops := true, apart := false, narrowed := true }
def FnExactPossibleOfUptoSaid : Prop := fnExactPossibleOfUptoRow.holds Tryz.pinned (OpenSpec.upto fnExactPossibleOfSpec)

/-- 'laws.FnExactSortDefs', WHERE WHAT IT READS IS OF BULK AT MOST 1048576: true; the input reads as it did. -/
def fnExactSortDefsUptoRow : OpenClaim := { program := "ytlllilepahpahaagreat", sum := "0b69385ec2052aa43d8ad3c3b323b55d444fba9bfa0d1f7200682b4e54dcc109", func := "loop.example/g00964/laws.FnExactSortDefs", spec := "fnExactSortDefs", inPlace := ["internal/bytealg.abigen_runtime_cmpstring"], unfollowed := true, recurses := true, loops := true, apart := false, narrowed := true }
def FnExactSortDefsUptoSaid : Prop := fnExactSortDefsUptoRow.holds Tryz.pinned (OpenSpec.upto fnExactSortDefsSpec)

/-- 'laws.FnExactSchemaOf', WHERE WHAT IT READS IS OF BULK AT MOST 1048576: true; the input reads as it did. -/
def fnExactSchemaOfUptoRow : OpenClaim := { program := "ytlllilepahpahaagreat", sum := "0b69385ec2052aa43d8ad3c3b323b55d444fba9bfa0d1f7200682b4e54dcc109", func := "loop.example/g00964/laws.FnExactSchemaOf", spec := "fnExactSchemaOf", inPlace := ["internal/bytealg.abigen_runtime_cmpstring"], unfollowed := true, recurses := true, loops := true, apart := false, narrowed := true }
def FnExactSchemaOfUptoSaid : Prop := fnExactSchemaOfUptoRow.holds Tryz.pinned (OpenSpec.upto fnExactSchemaOfSpec)

end Rows
end Go.Proofs.YtlllilepahpahaaGreat
