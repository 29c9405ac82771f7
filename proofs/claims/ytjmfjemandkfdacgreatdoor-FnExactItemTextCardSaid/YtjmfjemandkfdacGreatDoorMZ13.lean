import Derived.Test.YtjmfjemandkfdacGreatDoorRows
import Derived.Test.YtjmfjemandkfdacGreatDoorMZ11
import Derived.Test.YtjmfjemandkfdacGreatDoorMZ6
import Derived.Test.YtjmfjemandkfdacGreatDoorMZ12
import Derived.Lib.LaidU8T
import Derived.Lib.LaidIn
import Derived.Stop.Joined
/- The law FnExactItemText answers true for every input that its row lists the tables for. -/
namespace Go.Proofs.YtjmfjemandkfdacGreatDoor.fnExactItemText
open Go Go.ChangeShapes Go.WideShapes Go.ChangeAt Go.RowKit Go.Proofs.QV
set_option linter.unusedVariables false
set_option maxRecDepth 100000
theorem own : ownKnob Tryz.prog.godebug = none := by kernel_rfl
theorem jjj : laidOutB Tryz.prog = true := by kernel_rfl
theorem mixed : Tryz.prog.follows .mixedOrders = true := by kernel_rfl
theorem j9K : (Rows.laid_unicode_utf8_first : DataW Unit) = Lib.firstData := by kernel_rfl
theorem j7Q : (Rows.laid_unicode_utf8_acceptRanges : DataW Unit) = Lib.acceptData := by kernel_rfl
/-- A world in which the variables hold what the row lists. -/
noncomputable def jcw (os : Os) : World :=
 let w0 := World.holding Tryz.prog os ⟨#[], #[], []⟩
 let put (h : Array Obj) (g : Nat) (cs : Array Value) : Array Obj := h.modify g fun
  | .cells _ t frozen => .cells cs t frozen
  | o => o
 let h1 := put w0.heap 1 (Lib.firstTab.map fun z => Value.int .u8 z).toArray
 let h2 := put h1 2 ((List.range 16).flatMap fun i => [Value.int .u8 (Lib.accLo i), Value.int .u8 (Lib.accHi i)]).toArray
 { w0 with heap := h2 }
theorem jiO (os : Os) (args : Array Value) : laidMetH Tryz.prog Rows.fnExactItemTextRow.laid ((jcw os).forCall (fun _ _ => 0) ⟨#[], args, []⟩).memory := by
 rw [MakeChecks.laidMetH_plain _ _ _ (by kernel_rfl)]
 show laidMet Tryz.prog [("unicode/utf8.acceptRanges", Rows.laid_unicode_utf8_acceptRanges), ("unicode/utf8.first", Rows.laid_unicode_utf8_first)] _
 rw [j9K, j7Q]
 exact (LaidIn.of_run (l := [("unicode/utf8.acceptRanges", Lib.acceptData), ("unicode/utf8.first", Lib.firstData)]) [2, 1] 8 (by kernel_rfl) (by kernel_rfl) (by kernel_rfl) (by kernel_rfl)).met
/-- What the package variables hold, out of what the row lists and the world's shape. -/
theorem holds {W : World} (hL0 : laidMetH Tryz.prog Rows.fnExactItemTextRow.laid W) (hS : W.ShapedOpen Tryz.prog) : G.ok W ∧ ∀ b, G.gb b → b < W.heap.size := by
 rw [MakeChecks.laidMetH_plain _ _ _ (by kernel_rfl)] at hL0
 have hL : laidMet Tryz.prog [("unicode/utf8.acceptRanges", Rows.laid_unicode_utf8_acceptRanges), ("unicode/utf8.first", Rows.laid_unicode_utf8_first)] W := hL0
 rw [j9K, j7Q] at hL
 have htab : Lib.Utf8Tabs (Tryz.lays196_ren.g 3) (Tryz.lays196_ren.g 4) W :=
  utf8Tabs_of_readsT (U8Types.of196 Tryz.lays196) ⟨by kernel_rfl, by kernel_rfl, by kernel_rfl, by kernel_rfl, by kernel_rfl, by kernel_rfl, by kernel_rfl⟩ (Lib.laidMet.reads hL (.tail _ (.head _))) (Lib.laidMet.reads hL (.head _))
 have hm : ∃ m, W.cell? ⟨0, 0, none⟩ = some (.int .i64 m) :=
  cell_of_shapedOpen_int (zero := #[.int .i64 0]) (t := 3) hS (of_decide_eq_true (by kernel_rfl)) (by kernel_rfl) rfl (by kernel_rfl) (by kernel_rfl) Tryz.underlying3
 refine ⟨⟨htab, hm⟩, fun b hb => ?_⟩
 obtain ⟨m, hm⟩ := hm
 rcases hb with rfl | rfl | rfl
 ·exact jdm (htab.1 0 (by decide))
 ·exact jdm (htab.2 0 (by decide)).1
 ·exact jdm hm
theorem lifted (os : Os) (started : os.Started) (H : Type) (enc : TypeId × Value → H) :
  ReturnsInHanded {} Tryz.checked os 3 .any (fun w args => (Rows.fnExactItemTextSpec.pre enc Tryz.prog Tryz.f3 Rows.fnExactItemTextRow.domain false w args ∧ laidMetH Tryz.prog Rows.fnExactItemTextRow.laid w) ∧ sizedMet enc Tryz.prog Tryz.f3 (OpenSpec.ofChange Rows.fnExactItemTextSpec) false w args)
   (Rows.fnExactItemTextSpec.post enc Tryz.prog Tryz.f3 false true false false) := by
 refine jeP (C := Tryz.checked) (X := fun w _ => laidMetH Tryz.prog Rows.fnExactItemTextRow.laid w) (fun _ _ _ hh h => h.of_heap hh) own started (by kernel_rfl) Tryz.func3
  (ChangeSpec.witness_shaped (enc := enc) (C := Tryz.checked) (os := os) (X := fun w _ => laidMetH Tryz.prog Rows.fnExactItemTextRow.laid w) false (jcw os) #[.agg #[.int .i64 0, .int .i64 0, .string ByteArray.empty, .slice none 0 0, .slice none 0 0, .slice none 0 0, .string ByteArray.empty, .string ByteArray.empty, .slice none 0 0, .slice none 0 0, .int .i64 0, .bool false, .string ByteArray.empty, .string ByteArray.empty, .slice none 0 0, .slice none 0 0, .slice none 0 0, .slice none 0 0, .slice none 0 0, .bool false, .slice none 0 0]] 8 rfl (World.shaped_of_RefB (by kernel_rfl) (by kernel_rfl)) (by kernel_rfl) (by kernel_rfl) (by kernel_rfl) (jiO os _)) ?_
 intro W base args ds gs before hval0 hW hL hS
 have hval : ∀ (j : Nat) t v, Tryz.f3.params.toList[j]? = some t → args[j]? = some v → Value.okWide Tryz.prog W .any base t v := fun j t v h1 h2 => hval0 j t v (by simpa using h1) h2
 have hW' := hW
 obtain ⟨p, q, hA0, hV, rfl, hfz, hnd⟩ := hW
 have hA : DataW.TrodAll enc Tryz.prog W 0 (fun _ => true) true Tryz.f3.params.toList args.toList ds p := hA0
 obtain ⟨rfl, rfl⟩ := trodVars_none hV
 have hA2 := hA
 rw [Tryz.params3] at hA2
 obtain ⟨v0, vs0, d0, ds0, p0, q0, hargs, rfl, rfl, h0, r0⟩ := trodAll_cons hA2
 obtain ⟨rfl, rfl, rfl⟩ := trodAll_nil r0
 obtain ⟨ty1, ty2⟩ := jjB tys
 refine (jhn (ju := ju) ty1 ty2 mixed (jk8 fns) (f := 3) (fi := fi3) (by kernel_rfl) (holds hL hS) (by kernel_rfl) (ts := Tryz.f3.params.toList) (by kernel_rfl) (by kernel_rfl) hA hval (fun d hd => kj.evt (j3k d hd))).mono fun e W' ⟨he, bel⟩ => ?_
 subst he
 exact ⟨_, rfl, _, _, _, [], _, [], hW', trodAll_mk1 (shut_bool Tryz.underlying4 _), jcI jjj bel (by kernel_rfl) hA, rfl, bel.frame _, fun h => by cases h⟩
end Go.Proofs.YtjmfjemandkfdacGreatDoor.fnExactItemText
