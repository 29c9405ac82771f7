import Derived.Test.YtcpolmhblhhikaaGreatRows
import Derived.Test.YtcpolmhblhhikaaGreatMU11
import Derived.Test.YtcpolmhblhhikaaGreatMU6
/- The law FnKinds answers true for every input; no condition beyond the row's own. -/
namespace Go.Proofs.YtcpolmhblhhikaaGreat.fnKinds
open Go Go.ChangeShapes Go.WideShapes Go.ChangeAt Go.RowKit Go.Proofs.QV
set_option linter.unusedVariables false
theorem own : ownKnob Tryz.prog.godebug = none := by kernel_rfl
theorem jaV : laidOutB Tryz.prog = true := by kernel_rfl
theorem mixed : Tryz.prog.follows .mixedOrders = true := by kernel_rfl
set_option maxRecDepth 100000 in
theorem jbG (os : Os) (started : os.Started) (H : Type) (enc : TypeId × Value → H) :
  ReturnsInHanded {} Tryz.checked os 3 .any (Rows.fnKindsSpec.pre6 enc Tryz.prog Tryz.f3 Rows.fnKindsRow.domain false) (Rows.fnKindsSpec.post enc Tryz.prog Tryz.f3 false true false false) := by
 refine returnsInHanded_of_change_sized (C := Tryz.checked) own started (by kernel_rfl) Tryz.func3
  (ChangeSpec.witness6 (enc := enc) (C := Tryz.checked) false ⟨#[], #[.slice none 0 0], []⟩ 8 (by kernel_rfl) (by kernel_rfl) (by kernel_rfl) (by kernel_rfl)) ?_
 intro W base args ds gs before hval0 hW hcnd hsz0 _
 have hval : ∀ (j : Nat) t v, Tryz.f3.params.toList[j]? = some t → args[j]? = some v → Value.okWide Tryz.prog W .any base t v := fun j t v h1 h2 => hval0 j t v (by simpa using h1) h2
 have hW' := hW
 obtain ⟨p, q, hA0, hV, rfl, hfz, hnd⟩ := hW
 have hA : DataW.TrodAll enc Tryz.prog W 0 (fun _ => true) true Tryz.f3.params.toList args.toList ds p := hA0
 obtain ⟨rfl, rfl⟩ := trodVars_none hV
 have hA2 := hA
 rw [Tryz.params3] at hA2
 obtain ⟨v0, vs0, d0, ds0, p0, q0, hargs, rfl, rfl, h0, r0⟩ := trodAll_cons hA2
 obtain ⟨rfl, rfl, rfl⟩ := trodAll_nil r0
 obtain ⟨ty1, ty2⟩ := j6J tys
 refine (j8z (cfg := cfg) ty1 ty2 mixed (ja0 fns) (f := 3) (fi := fi3) (by kernel_rfl) ⟨trivial, fun _ h => h.elim⟩ (by kernel_rfl) (ts := Tryz.f3.params.toList) (by kernel_rfl) (by kernel_rfl) hA hval (fun d hd => ki.evt (j69 d hd))).mono fun e W' ⟨he, bel⟩ => ?_
 subst he
 exact ⟨_, rfl, _, _, _, [], _, [], hW', trodAll_mk1 (shut_bool Tryz.underlying4 _), j4A jaV bel (by kernel_rfl) hA, rfl, bel.frame _, fun h => by cases h⟩
end Go.Proofs.YtcpolmhblhhikaaGreat.fnKinds
