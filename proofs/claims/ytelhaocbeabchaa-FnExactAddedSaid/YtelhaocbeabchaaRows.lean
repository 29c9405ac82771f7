/-
  NARROWER THAN 'FOR EVERY INPUT', by the rows' own cells (each row's printed sentence says how): FnExactRequiredIn: loops · FnExactJsonGet: loops · FnExactAdded: loops.
  DERIVED. THE GIVEN ROWS OF THIS SEAT. 4 by the template 'for every input the law returns true; each argument reads behind the call as it read before'; 0 by the template 'total and deterministic' (their statements: YtelhaocbeabchaaTotals.lean).
  GIVEN WITH THE SEED: the statements are not yours to turn. If you find one false, say at which input.
  Laid BY PROGRAM, IN A SANDBOX (cutbox-rows.mjs): the forced cells as the released guide's own fill.sh prints them over the translation e9386f31bb66ef4f… (all of the seat's roots in one cut). By AI agents, Wed Nov 11 2026. No macro, syntax, notation, axiom, sorry.
-/
import Derived.Test.YtelhaocbeabchaaChecked
import GoSem.Claim
import GoSem.ClaimJoined
import GoSem.ClaimMapViews
import Derived.JoinedTies
import Derived.KernelRfl
namespace Go.Proofs.Ytelhaocbeabchaa
/- THE CELL 'sum', in the pinned program and in every row, IS THE sha256 OF THE DUMP (.gsa) THAT YtelhaocbeabchaaProg.lean LOADS. Nothing in Lean hashes anything: it is a label: what it is worth is what the hold of that sum in a sandbox is worth. -/
noncomputable def Try.pinned : Pinned := { name := "ytelhaocbeabchaa", sum := "e9386f31bb66ef4f5d6d1a32c892baae61f877dda13b6a599e417ccbedbf1ecf", checked := Try.checked }
namespace Rows
def none {H : Type} : Left H := { results := [], args := [] }

/-- 'laws.FnExactRequiredIn': WHATEVER THE INPUT: true; the input reads as it did. -/
def fnExactRequiredInSpec : ChangeSpec := { name := "fnExactRequiredIn", fn := fun _ => fun
  | [d] => { results := [.lit (.bool true)], args := [d] }
  | _ => none }
def fnExactRequiredInRow : OpenClaim := { program := "ytelhaocbeabchaa", sum := "e9386f31bb66ef4f5d6d1a32c892baae61f877dda13b6a599e417ccbedbf1ecf", func := "loop.example/g00964/laws.FnExactRequiredIn", spec := "fnExactRequiredIn", recurses := true, loops := true, apart := false }
def FnExactRequiredInSaid : Prop := fnExactRequiredInRow.holds Try.pinned (OpenSpec.ofChange fnExactRequiredInSpec)

/-- ITS FALSE NEIGHBOUR: 'it returns false'. Refute it at one input. -/
def fnExactRequiredInWrong : ChangeSpec := { name := "fnExactRequiredIn", fn := fun _ => fun
  | [d] => { results := [.lit (.bool false)], args := [d] }
  | _ => none }
def FnExactRequiredInWrongFalsely : Prop := fnExactRequiredInRow.holds Try.pinned (OpenSpec.ofChange fnExactRequiredInWrong)

/-- 'laws.FnExactJsonGet': WHATEVER THE INPUT: true; the input reads as it did. -/
def fnExactJsonGetSpec : ChangeSpec := { name := "fnExactJsonGet", fn := fun _ => fun
  | [d1, d2] => { results := [.lit (.bool true)], args := [d1, d2] }
  | _ => none }
def fnExactJsonGetRow : OpenClaim := { program := "ytelhaocbeabchaa", sum := "e9386f31bb66ef4f5d6d1a32c892baae61f877dda13b6a599e417ccbedbf1ecf", func := "loop.example/g00964/laws.FnExactJsonGet", spec := "fnExactJsonGet", recurses := true, loops := true, apart := false }
def FnExactJsonGetSaid : Prop := fnExactJsonGetRow.holds Try.pinned (OpenSpec.ofChange fnExactJsonGetSpec)

/-- ITS FALSE NEIGHBOUR: 'it returns false'. Refute it at one input. -/
def fnExactJsonGetWrong : ChangeSpec := { name := "fnExactJsonGet", fn := fun _ => fun
  | [d1, d2] => { results := [.lit (.bool false)], args := [d1, d2] }
  | _ => none }
def FnExactJsonGetWrongFalsely : Prop := fnExactJsonGetRow.holds Try.pinned (OpenSpec.ofChange fnExactJsonGetWrong)

/-- 'laws.FnExactBuiltDirs': WHATEVER THE INPUT: true; the input reads as it did. -/
def fnExactBuiltDirsSpec : ChangeSpec := { name := "fnExactBuiltDirs", fn := fun _ => fun
  | [] => { results := [.lit (.bool true)], args := [] }
  | _ => none }
def fnExactBuiltDirsRow : OpenClaim := { program := "ytelhaocbeabchaa", sum := "e9386f31bb66ef4f5d6d1a32c892baae61f877dda13b6a599e417ccbedbf1ecf", func := "loop.example/g00964/laws.FnExactBuiltDirs", spec := "fnExactBuiltDirs", recurses := true, apart := false }
def FnExactBuiltDirsSaid : Prop := fnExactBuiltDirsRow.holds Try.pinned (OpenSpec.ofChange fnExactBuiltDirsSpec)

/-- ITS FALSE NEIGHBOUR: 'it returns false'. Refute it at one input. -/
def fnExactBuiltDirsWrong : ChangeSpec := { name := "fnExactBuiltDirs", fn := fun _ => fun
  | [] => { results := [.lit (.bool false)], args := [] }
  | _ => none }
def FnExactBuiltDirsWrongFalsely : Prop := fnExactBuiltDirsRow.holds Try.pinned (OpenSpec.ofChange fnExactBuiltDirsWrong)

/-- 'laws.FnExactAdded': WHATEVER THE INPUT: true; the input reads as it did. -/
def fnExactAddedSpec : ChangeSpec := { name := "fnExactAdded", fn := fun _ => fun
  | [d1, d2] => { results := [.lit (.bool true)], args := [d1, d2] }
  | _ => none }
def fnExactAddedRow : OpenClaim := { program := "ytelhaocbeabchaa", sum := "e9386f31bb66ef4f5d6d1a32c892baae61f877dda13b6a599e417ccbedbf1ecf", func := "loop.example/g00964/laws.FnExactAdded", spec := "fnExactAdded", recurses := true, loops := true, apart := false }
def FnExactAddedSaid : Prop := fnExactAddedRow.holds Try.pinned (OpenSpec.ofChange fnExactAddedSpec)

/-- ITS FALSE NEIGHBOUR: 'it returns false'. Refute it at one input. -/
def fnExactAddedWrong : ChangeSpec := { name := "fnExactAdded", fn := fun _ => fun
  | [d1, d2] => { results := [.lit (.bool false)], args := [d1, d2] }
  | _ => none }
def FnExactAddedWrongFalsely : Prop := fnExactAddedRow.holds Try.pinned (OpenSpec.ofChange fnExactAddedWrong)

/- THE SECOND FORM. 'bulk': how many values and letters a reading holds, each counted each time it is reached (what is shared counts as often as it is met; a slice's spare places count too). A statement '..UptoSaid' is the law's where the arguments, and the package variables that the reading takes, are together of bulk at most 1048576: NARROWER than '..Said'. Prove '..Said' where nothing that the law and all that it calls make is longer than what came in: it says more and counts as full. Else prove '..UptoSaid'. A law counts once. -/
mutual
def uptoBulk {H : Type} : DataW H → Nat
  | .lit (.string bytes) => bytes.length + 1
  | .lit _ => 1
  | .nil => 1
  | .ptr d => uptoBulk d + 1
  | .slice elems spare => uptoBulkAll elems + uptoBulkAll spare + 1
  | .agg parts => uptoBulkAll parts + 1
  | .iface _ d => uptoBulk d + 1
  | .map entries => uptoBulkEntries entries + 1
  | .held _ => 1
def uptoBulkAll {H : Type} : List (DataW H) → Nat
  | [] => 0
  | d :: r => uptoBulk d + uptoBulkAll r
def uptoBulkEntries {H : Type} : List (Lit × DataW H) → Nat
  | [] => 0
  | x :: r => uptoBulkEntry x + uptoBulkEntries r
def uptoBulkEntry {H : Type} : Lit × DataW H → Nat
  | (.string bytes, d) => bytes.length + uptoBulk d + 1
  | (_, d) => uptoBulk d + 1
 end
def uptoSmall : (H : Type) → List (DataW H) → Bool := fun _ ds => decide (uptoBulkAll ds ≤ 1048576)
def OpenSpec.upto (s : _root_.Go.ChangeSpec) : _root_.Go.OpenSpec := { _root_.Go.OpenSpec.ofChange s with cond := some uptoSmall }

/-- 'laws.FnExactRequiredIn', WHERE WHAT IT READS IS OF BULK AT MOST 1048576: true; the input reads as it did. -/
def fnExactRequiredInUptoRow : OpenClaim := { program := "ytelhaocbeabchaa", sum := "e9386f31bb66ef4f5d6d1a32c892baae61f877dda13b6a599e417ccbedbf1ecf", func := "loop.example/g00964/laws.FnExactRequiredIn", spec := "fnExactRequiredIn", recurses := true, loops := true, apart := false, narrowed := true }
def FnExactRequiredInUptoSaid : Prop := fnExactRequiredInUptoRow.holds Try.pinned (OpenSpec.upto fnExactRequiredInSpec)

/-- 'laws.FnExactJsonGet', WHERE WHAT IT READS IS OF BULK AT MOST 1048576: true; the input reads as it did. -/
def fnExactJsonGetUptoRow : OpenClaim := { program := "ytelhaocbeabchaa", sum := "e9386f31bb66ef4f5d6d1a32c892baae61f877dda13b6a599e417ccbedbf1ecf", func := "loop.example/g00964/laws.FnExactJsonGet", spec := "fnExactJsonGet", recurses := true, loops := true, apart := false, narrowed := true }
def FnExactJsonGetUptoSaid : Prop := fnExactJsonGetUptoRow.holds Try.pinned (OpenSpec.upto fnExactJsonGetSpec)

/-- 'laws.FnExactBuiltDirs', WHERE WHAT IT READS IS OF BULK AT MOST 1048576: true; the input reads as it did. -/
def fnExactBuiltDirsUptoRow : OpenClaim := { program := "ytelhaocbeabchaa", sum := "e9386f31bb66ef4f5d6d1a32c892baae61f877dda13b6a599e417ccbedbf1ecf", func := "loop.example/g00964/laws.FnExactBuiltDirs", spec := "fnExactBuiltDirs", recurses := true, apart := false, narrowed := true }
def FnExactBuiltDirsUptoSaid : Prop := fnExactBuiltDirsUptoRow.holds Try.pinned (OpenSpec.upto fnExactBuiltDirsSpec)

/-- 'laws.FnExactAdded', WHERE WHAT IT READS IS OF BULK AT MOST 1048576: true; the input reads as it did. -/
def fnExactAddedUptoRow : OpenClaim := { program := "ytelhaocbeabchaa", sum := "e9386f31bb66ef4f5d6d1a32c892baae61f877dda13b6a599e417ccbedbf1ecf", func := "loop.example/g00964/laws.FnExactAdded", spec := "fnExactAdded", recurses := true, loops := true, apart := false, narrowed := true }
def FnExactAddedUptoSaid : Prop := fnExactAddedUptoRow.holds Try.pinned (OpenSpec.upto fnExactAddedSpec)

end Rows
end Go.Proofs.Ytelhaocbeabchaa
