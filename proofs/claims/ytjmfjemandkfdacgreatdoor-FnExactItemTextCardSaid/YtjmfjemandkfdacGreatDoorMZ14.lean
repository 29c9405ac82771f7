import Derived.Test.YtjmfjemandkfdacGreatDoorMZ13
/- The law FnExactItemText answers true for every input that its row lists the tables for: the row. -/
namespace Go.Proofs.YtjmfjemandkfdacGreatDoor.fnExactItemText
open Go Go.ChangeShapes Go.WideShapes Go.ChangeAt Go.RowKit Go.Proofs.QV
set_option linter.unusedVariables false
theorem QG {a b : Bool} (h : a = true) (k : b = true) : (a && b) = true := by rw [h, k]; rfl
theorem k0 : Rows.fnExactItemTextRow.wf (OpenSpec.ofChange Rows.fnExactItemTextSpec) = true := by kernel_rfl
theorem k1 : laidOutB Tryz.pinned.checked.prog = true := by kernel_rfl
theorem k2 : mapsRowed Tryz.pinned.checked.prog = true := by kernel_rfl
theorem k3 : Tryz.f3.params.all (Tryz.pinned.checked.prog.readableRec ·) = true := by kernel_rfl
theorem k4 : namedTie Tryz.pinned.checked.prog Rows.fnExactItemTextRow.named Rows.fnExactItemTextSpec.vars = true := by kernel_rfl
theorem k5 : (Rows.fnExactItemTextRow.stops == []) = true := by kernel_rfl
theorem k6 : (Tryz.pinned.checked.prog.stops == []) = true := by kernel_rfl
theorem k7 : (Rows.fnExactItemTextRow.knobs == []) = true := by kernel_rfl
theorem k8 : (Tryz.pinned.checked.prog.stopKnobs == []) = true := by kernel_rfl
theorem k9 : (Rows.fnExactItemTextRow.inPlace == Tryz.pinned.checked.prog.inPlace 3) = true := by kernel_rfl
theorem k10 : (Rows.fnExactItemTextRow.unfollowed == Tryz.pinned.checked.prog.unfollowed 3) = true := by kernel_rfl
theorem k11 : (Rows.fnExactItemTextRow.recurses == Tryz.pinned.checked.prog.recurses 3) = true := by kernel_rfl
theorem k12 : (Rows.fnExactItemTextRow.named == Tryz.pinned.checked.prog.varsNamed 3) = true := by kernel_rfl
theorem k13 : (Rows.fnExactItemTextRow.maps == (Tryz.f3.params.toList ++ Rows.fnExactItemTextSpec.plain.varTypes Tryz.pinned.checked.prog).any (Tryz.pinned.checked.prog.mapsRec ·)) = true := by kernel_rfl
theorem k14 : (Rows.fnExactItemTextRow.ifaces == (Tryz.f3.params.toList ++ Rows.fnExactItemTextSpec.plain.varTypes Tryz.pinned.checked.prog).any (Tryz.pinned.checked.prog.ifacesRec ·)) = true := by kernel_rfl
theorem k15 : (Rows.fnExactItemTextRow.mapsOut == Tryz.pinned.checked.prog.mapsAmong Tryz.f3.resultTypes.toList) = true := by kernel_rfl
theorem k16 : (Rows.fnExactItemTextRow.loops == (Tryz.f3.params.toList ++ Rows.fnExactItemTextSpec.plain.varTypes Tryz.pinned.checked.prog).any (Tryz.pinned.checked.prog.loopsFrom ·)) = true := by kernel_rfl
theorem k17 : (Rows.fnExactItemTextRow.wideKeys == (Tryz.f3.params.toList ++ Rows.fnExactItemTextSpec.plain.varTypes Tryz.pinned.checked.prog ++ Tryz.f3.resultTypes.toList).any (Tryz.pinned.checked.prog.wideKeysFrom ·)) = true := by kernel_rfl
theorem k18 : Rows.fnExactItemTextSpec.vars.all (Tryz.pinned.checked.prog.varReadable ·) = true := by kernel_rfl
theorem k19 : Tryz.f3.resultTypes.all (fun t => Tryz.pinned.checked.prog.readableRec t && decide (t < Tryz.pinned.checked.prog.types.size)) = true := by kernel_rfl
theorem k20 : (Rows.fnExactItemTextRow.ifacesOut == Tryz.f3.resultTypes.toList.any (Tryz.pinned.checked.prog.ifacesRec ·)) = true := by kernel_rfl
theorem k21 : (Rows.fnExactItemTextRow.loopsOut == Tryz.f3.resultTypes.toList.any (Tryz.pinned.checked.prog.loopsFrom ·)) = true := by kernel_rfl
theorem k22 : (Rows.fnExactItemTextRow.plainKeys == Tryz.pinned.checked.prog.plainKeys) = true := by kernel_rfl
theorem k23 : Rows.fnExactItemTextRow.shortTexts.isNone = true := by kernel_rfl
theorem k24 : Tryz.pinned.checked.prog.stopsHeard = true := by kernel_rfl
theorem k25 : Tryz.pinned.checked.prog.mayEnter = true := by kernel_rfl
theorem k26 : (Rows.fnExactItemTextRow.lifted == Tryz.pinned.checked.prog.liftsFinal) = true := by kernel_rfl
theorem k27 : (Tryz.pinned.checked.prog.make == some Rows.fnExactItemTextRow.make) = true := by kernel_rfl
theorem k28 : (Rows.fnExactItemTextRow.kinds == (if Rows.fnExactItemTextRow.domain.isEmpty then [] else Tryz.f3.params.toList.map fun t => match Tryz.pinned.checked.prog.underlying t with | some (.int k) => some k | _ => none)) = true := by kernel_rfl
theorem k29 : (Rows.fnExactItemTextRow.pinned == Rows.fnExactItemTextRow.pinnedBy) = true := by kernel_rfl
theorem k30 : (Rows.fnExactItemTextRow.veiled == (Tryz.f3.params.toList ++ Rows.fnExactItemTextSpec.plain.varTypes Tryz.pinned.checked.prog ++ Tryz.f3.resultTypes.toList).any (Tryz.pinned.checked.prog.veiledRec ·)) = true := by kernel_rfl
theorem k31 : Rows.fnExactItemTextRow.veiledFits Tryz.pinned.checked.prog Tryz.f3.params.toList (Tryz.f3.params.toList ++ Rows.fnExactItemTextSpec.plain.varTypes Tryz.pinned.checked.prog ++ Tryz.f3.resultTypes.toList) = true := by kernel_rfl
set_option maxRecDepth 100000 in
theorem closed : joinedFacts Tryz.pinned.checked.prog 3 Tryz.f3 Rows.fnExactItemTextSpec Rows.fnExactItemTextRow = true := by
 unfold joinedFacts
 exact QG (QG (QG (QG (QG (QG (QG (QG (QG (QG (QG (QG (QG (QG (QG (QG (QG (QG (QG (QG (QG (QG (QG (QG (QG (QG (QG (QG (QG (QG (QG k0 k1) k2) k3) k4) k5) k6) k7) k8) k9) k10) k11) k12) k13) k14) k15) k16) k17) k18) k19) k20) k21) k22) k23) k24) k25) k26) k27) k28) k29) k30) k31
theorem nmd : Tryz.pinned.checked.prog.funcNamed Rows.fnExactItemTextRow.func = some 3 := by kernel_rfl
theorem jmF : Tryz.f3.isInstance Tryz.pinned.checked.prog Rows.fnExactItemTextRow.origin Rows.fnExactItemTextRow.targs := of_decide_eq_true (by kernel_rfl)
theorem wrap : Tryz.f3.isWrapper Tryz.pinned.checked.prog Rows.fnExactItemTextRow.wrapper Rows.fnExactItemTextRow.mainSum := by unfold Func.isWrapper; first | (rw [if_pos (by decide +kernel)]; kernel_rfl) | (rw [if_neg (by decide +kernel)]; exact ⟨rfl, rfl⟩)
theorem proved : Rows.FnExactItemTextSaid :=
 OpenClaim.holds_of_wide 3 Tryz.f3 rfl rfl rfl rfl rfl rfl rfl ⟨rfl, rfl, rfl, rfl, rfl⟩ rfl rfl rfl rfl rfl nmd Tryz.func3 closed jmF wrap
  (fun os started H enc _ => lifted os started H enc)
#print axioms proved
end Go.Proofs.YtjmfjemandkfdacGreatDoor.fnExactItemText
