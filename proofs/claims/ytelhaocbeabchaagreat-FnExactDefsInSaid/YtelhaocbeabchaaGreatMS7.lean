import Derived.Test.YtelhaocbeabchaaGreatMS6
import Derived.Lib.SliceRun
import Derived.Test.YtelhaocbeabchaaGreatMS5
import Derived.Test.YtelhaocbeabchaaGreatProg
/- A function that is met by a contract and gives a copy of a slice (slices.Clone). -/
namespace Go.Proofs.QV
open Go
set_option linter.unusedVariables false
set_option linter.unusedSimpArgs false
def primC (e : Nat) : Hint → List DC → Option (List DC) := fun h v =>
  match h.tm, h.ob, v with
  | [.one (.sl e')], [], [.sl l] => if e' = e ∧ l.length < LIM then some [.sl l] else none
  | _, _, _ => none
def clCond : Code → Code
  | .seq _ (.seq (.seq _ x) _) => x
  | _ => .skip
def clRest : Code → Code
  | .seq _ (.seq _ y) => y
  | _ => .skip
def noFn : Nat → Option FI := fun _ => none
def noCl : Nat → Hint → List DC → Out := fun _ _ _ => .fail
def clRun (ty : Nat → Option TI) (fi : FI) (e : Nat) (ac ar : AC) (b : Bool) (l : List (List DC)) : Out :=
  let h : Hint := ⟨[.one (.sl e)], []⟩
  let st := startSt fi h [.sl l]
  exec ty noFn noCl 0 0 (retOut ty fi h) (.seq ac ar) (fun _ => none) { tm := putC (putC (putC st.tm (some 2) (.one .nil)) (some 3) (.one (.sl e l))) (some 4) (.one (.bool b)), H := st.H } (retOut ty fi h)
structure ClShape (P : Program) (fd : Func) (e : Nat) (ac ar : AC) : Prop where
  ex : ∃ (i0 i1 : Nat) (o0 om ob : Oper) (t t' : Nat), fd.body = some (.seq (.region i0 #[o0] false) (.seq (.seq (.region i1 #[om, ob] false) ac.code) ar.code)) ∧
    (o0.op = .assign (.const (.slice none 0 0)) ∧ o0.dst = some 2 ∧ o0.guard = none) ∧ (om.op = .move (.tmp 0) ∧ om.dst = some 3 ∧ om.guard = none) ∧
    (ob.op = .binOp .eql t (.tmp 3) (.const (.slice none 0 0)) t' ∧ ob.dst = some 4 ∧ ob.guard = none) ∧ P.underlying t = some (.slice e)
section
variable {P : Program} {ty : Nat → Option TI}
theorem eval_put_neq {a : Act} {d e : Nat} {u : Value} (h : d ≠ e) : (a.put (some d) u).eval (.tmp e) = a.eval (.tmp e) := by
  show (a.tmps.setIfInBounds d u).getD e undef = a.tmps.getD e undef
  rw [Array.getD_eq_getD_getElem?, Array.getD_eq_getD_getElem?, Array.getElem?_setIfInBounds_ne h]
theorem prim_clone {G : Glob} {f : Nat} {fi : FI} {fd : Func} {e : Nat} {ac ar : AC} (hty : TyOk P ty) (hmix : P.follows .mixedOrders = true) (h1 : P.funcs[f]? = some fd) (h2 : (fd.name == "runtime.NumGoroutine") = false) (h3 : fd.body.isNone = false)
    (hmk : fi.mark = none) (hp : fi.prim = some (primC e)) (hsh : ClShape P fd e ac ar) (hres : fd.results.toList = fi.res) (hnt : fd.ntmps = fi.ntmps) (hlen : 4 < fi.ntmps)
    (hrun : ∀ b l, (b = true → l = []) → l.length < LIM → clRun ty fi e ac ar b l = .ret [.sl l]) : FnOk P G ty f fi := by
  refine ⟨⟨fd, h1, h2, h3, fun h => by rw [hp] at h; simp at h⟩, fun p hpp h v r en => ?_, fun m hm => by rw [hmk] at hm; cases hm⟩
  rw [hp] at hpp
  simp only [Option.some.injEq] at hpp
  subst hpp
  unfold primC at en
  split at en
  · rename_i e' l htm hob
    split at en
    · rename_i hc
      obtain ⟨rfl, hlim⟩ := hc
      simp only [Option.some.injEq] at en
      subst en
      obtain ⟨tm, ob⟩ := h
      dsimp only at htm hob
      subst htm hob
      intro A g vals w hA hr hs hw hm
      have hs1 : vals.size = 1 := by simpa using hs
      obtain ⟨i0, i1, o0, om, ob, t, t', hbody, ⟨x1, x2, x3⟩, ⟨y1, y2, y3⟩, ⟨z1, z2, z3⟩, hu⟩ := hsh.ex
      have t0 := hr.tm 0 _ (vals[0]'(by omega)) (show (startSt fi ⟨[.one (.sl e')], []⟩ [.sl l]).tm[0]? = some (.one (.sl e' l)) from rfl) (by
        dsimp only
        rw [Array.getElem?_append_left (by omega), Array.getElem?_eq_getElem (by omega)])
      obtain ⟨F, t0, t1⟩ := t0
      have hv0 : ∀ v0, RdC ty w (.sl e') (.sl l) v0 F → ∃ ad n cap, v0 = .slice ad n cap ∧ (ad.isNone = true → l = []) := by
        intro v0 h0
        generalize hl0 : l = l0 at h0
        cases h0 with
        | nil _ a c => exact ⟨a, 0, c, rfl, fun _ => rfl⟩
        | sl _ _ b off n cap => exact ⟨_, n, cap, rfl, fun h => by simp at h⟩
      obtain ⟨ad, n, cap, hv0, hnil⟩ := hv0 _ t0
      refine calls_of_wp h1 hbody ?_
      rw [hnt]
      generalize ha0 : ({ tmps := vals ++ Array.replicate (fi.ntmps - vals.size) undef, defers := [] } : Act) = a0 at hr ⊢
      have e0 : a0.eval (.tmp 0) = .slice ad n cap := by
        subst ha0
        show Array.getD _ 0 undef = _
        rw [Array.getD_eq_getD_getElem?, Array.getElem?_append_left (by omega), Array.getElem?_eq_getElem (by omega), hv0]
        rfl
      have n1 : 4 < a0.tmps.size := by subst ha0; simp; omega
      refine wp_seq (wp_region ?_)
      show wpOps P #[o0] _ [0] a0 w
      refine wp_cons_none (o := o0) rfl x3 (wp_value (v := .slice none 0 0) (w' := w) (by simp [execOp, x1, Act.eval]) ?_)
      rw [x2]
      have r1 := hr.put (some 2) (c := .one .nil) (v := .slice none 0 0) rfl
      refine wp_seq (wp_seq (wp_region ?_))
      show wpOps P #[om, ob] _ [0, 1] _ w
      have e1 : (a0.put (some 2) (.slice none 0 0)).eval (.tmp 0) = .slice ad n cap := by rw [eval_put_neq (by decide)]; exact e0
      refine wp_cons_none (o := om) rfl y3 (wp_value (v := .slice ad n cap) (w' := w) (by simp only [execOp, y1, Sem.run_pure]; rw [e1]) ?_)
      rw [y2]
      have r2 := r1.put (some 3) (c := .one (.sl e' l)) (v := .slice ad n cap) ⟨F, by rw [← hv0]; exact t0, t1⟩
      refine wp_cons_none (o := ob) rfl z3 (wp_value (v := .bool ad.isNone) (w' := w) ?_ ?_)
      · have e2 : ((a0.put (some 2) (.slice none 0 0)).put (some 3) (.slice ad n cap)).eval (.tmp 3) = .slice ad n cap := by
          show Array.getD _ 3 undef = _
          rw [Array.getD_eq_getD_getElem?]
          simp only [Act.put]
          rw [Array.getElem?_setIfInBounds_self_of_lt (by simp; omega)]
          rfl
        simp only [execOp, z1]
        rw [e2]
        simp [eqGuard, Act.eval, Lib.run_eql_slice_nil w t e' ad n cap 0 0 hu]
      rw [z2]
      have r3 := r2.put (some 4) (c := .one (.bool ad.isNone)) (v := .bool ad.isNone) rfl
      have hcall : CallStep P ty noFn noCl A := call_step (G := G) (fun f fi h => by simp [noFn] at h) (fun f fi h v r hf e => by simp [noCl] at e) A hA
      have hex := hrun ad.isNone l hnil hlim
      unfold clRun at hex
      dsimp only at hex
      rw [exec] at hex
      have hm0 : A.m = 0 := by rw [hm]; rfl
      have fin : ∀ g' st' a' w', Rel ty A g' st' a' w' → retOut ty fi ⟨[.one (.sl e')], []⟩ st' = .ret [.sl l] → a'.defers = [] ∧ ∃ v, (results fd a'.tmps).run P w' = .ok v w' ∧ ∃ vs, v = resVal vs ∧ Res ty A (KO.vars []) fi.rk [.sl l] vs w' := by
        intro g' st' a' w' hr' hk
        obtain ⟨vs, q1, q2⟩ := ret_ok hty hr' (hn := ⟨[.one (.sl e')], []⟩) hm hk hres
        exact ⟨hr'.df, _, q1, vs, rfl, q2⟩
      refine wp_mono (exec_ok hty hcall hmix hm0 (fun st v => (retOut_ne fi ⟨[.one (.sl e')], []⟩ st).1 v) (fun st id v => (retOut_ne fi ⟨[.one (.sl e')], []⟩ st).2 id v) ac _ _ _ (.ret [.sl l]) g _ w r3 hex (by simp)) fun ex a' w' hq => ?_
      cases ex with
      | normal =>
        obtain ⟨g', st', hr', hk⟩ := hq
        refine wp_mono (exec_ok hty hcall hmix hm0 (fun st v => (retOut_ne fi ⟨[.one (.sl e')], []⟩ st).1 v) (fun st id v => (retOut_ne fi ⟨[.one (.sl e')], []⟩ st).2 id v) ar _ _ _ (.ret [.sl l]) g' _ w' hr' hk (by simp)) fun ex a2 w2 hq2 => ?_
        cases ex with
        | normal =>
          obtain ⟨g2, st2, hr2, hk2⟩ := hq2
          exact fin g2 st2 a2 w2 hr2 hk2
        | ret =>
          obtain ⟨g2, st2, hr2, hk2⟩ := hq2
          exact fin g2 st2 a2 w2 hr2 hk2
        | exit id =>
          obtain ⟨_, _, _, hk, _⟩ := hq2
          simp at hk
        | goto l => exact hq2.elim
        | panic c => exact hq2.elim
        | outgrown => exact hq2.elim
      | ret =>
        obtain ⟨g2, st2, hr2, hk2⟩ := hq
        exact fin g2 st2 a' w' hr2 hk2
      | exit id =>
        obtain ⟨_, _, _, hk, _⟩ := hq
        simp at hk
      | goto l => exact hq.elim
      | panic c => exact hq.elim
      | outgrown => exact hq.elim
    · simp at en
  · simp at en
end
set_option maxRecDepth 100000
abbrev ou : KC := .one .u
abbrev ob : KC := .one .b
abbrev os : KC := .one .s
abbrev oi : KC := .one (.i .i64)
abbrev ol (e : Nat) : KC := .one (.sl e)
def uu (n : Nat) (l : List KC) : List KC := List.replicate n (.one .u) ++ l
def vv (n : Nat) (l : List KO) : List KO := List.replicate n .u ++ l
noncomputable def tyL : List (Nat × TI) := [(3, ⟨.int .i64, [.i .i64], 8, [], false⟩),
  (4, ⟨.bool, [.b], 1, [], false⟩),
  (5, ⟨.int .u8, [.i .u8], 1, [], false⟩),
  (9, ⟨.str, [.s], 16, [], false⟩),
  (23, ⟨.slice 126, [.sl 126], 24, [], false⟩),
  (27, ⟨.slice 139, [.sl 139], 24, [], false⟩),
  (29, ⟨.struct, [.s, .s], 32, [(0, 1, false), (1, 1, false)], false⟩),
  (30, ⟨.slice 143, [.sl 143], 24, [], false⟩),
  (32, ⟨.struct, [.s, .s, .sl 139, .s, .s, .sl 143], 112, [(0, 1, false), (1, 1, false), (2, 1, false), (3, 2, true), (5, 1, false)], false⟩),
  (35, ⟨.slice 49, [.sl 49], 24, [], false⟩),
  (36, ⟨.slice 131, [.sl 131], 24, [], false⟩),
  (45, ⟨.slice 9, [.sl 9], 24, [], false⟩),
  (46, ⟨.slice 32, [.sl 32], 24, [], false⟩),
  (47, ⟨.slice 154, [.sl 154], 24, [], false⟩),
  (49, ⟨.struct, [.i .i64, .b, .s, .s, .sl 9, .sl 32, .sl 139, .sl 154, .sl 131, .b, .sl 143], 200, [(0, 1, false), (1, 1, false), (2, 1, false), (3, 1, false), (4, 1, false), (5, 1, false), (6, 1, false), (7, 1, false), (8, 1, false), (9, 1, false), (10, 1, false)], false⟩),
  (56, ⟨.slice 102, [.sl 102], 24, [], false⟩),
  (65, ⟨.slice 172, [.sl 172], 24, [], false⟩),
  (67, ⟨.struct, [.sl 172], 24, [(0, 1, false)], false⟩),
  (70, ⟨.slice 120, [.sl 120], 24, [], false⟩),
  (72, ⟨.struct, [.sl 120], 24, [(0, 1, false)], false⟩),
  (95, ⟨.slice 189, [.sl 189], 24, [], false⟩),
  (96, ⟨.slice 195, [.sl 195], 24, [], false⟩),
  (97, ⟨.slice 198, [.sl 198], 24, [], false⟩),
  (98, ⟨.slice 202, [.sl 202], 24, [], false⟩),
  (100, ⟨.struct, [.i .i64, .b, .s, .s, .sl 9, .sl 189, .sl 195, .sl 198, .sl 126, .b, .sl 202], 200, [(0, 1, false), (1, 1, false), (2, 1, false), (3, 1, false), (4, 1, false), (5, 1, false), (6, 1, false), (7, 1, false), (8, 1, false), (9, 1, false), (10, 1, false)], false⟩),
  (102, ⟨.struct, [.i .i64, .s, .s], 40, [(0, 1, false), (1, 1, false), (2, 1, false)], false⟩),
  (113, ⟨.slice 214, [.sl 214], 24, [], false⟩),
  (114, ⟨.slice 216, [.sl 216], 24, [], false⟩),
  (116, ⟨.struct, [.i .i64, .s, .sl 214, .sl 143, .sl 216], 96, [(0, 1, false), (1, 1, false), (2, 1, false), (3, 1, false), (4, 1, false)], false⟩),
  (118, ⟨.struct, [.s, .s, .sl 143, .sl 216], 80, [(0, 1, false), (1, 1, false), (2, 1, false), (3, 1, false)], false⟩),
  (120, ⟨.struct, [.i .i64, .i .i64, .s, .sl 214, .sl 143, .sl 216, .s, .s, .sl 143, .sl 216, .i .i64, .b, .s, .s, .sl 9, .sl 32, .sl 139, .sl 154, .sl 131, .b, .sl 143], 384, [(0, 1, false), (1, 5, true), (6, 4, true), (10, 11, true)], false⟩),
  (126, ⟨.struct, [.i .i64, .s], 24, [(0, 1, false), (1, 1, false)], false⟩),
  (131, ⟨.struct, [.i .i64, .s], 24, [(0, 1, false), (1, 1, false)], false⟩),
  (135, ⟨.slice 137, [.sl 137], 24, [], false⟩),
  (137, ⟨.struct, [.i .i64, .s, .sl 137, .sl 9], 72, [(0, 1, false), (1, 1, false), (2, 1, false), (3, 1, false)], false⟩),
  (139, ⟨.struct, [.s, .s, .s, .s, .b, .i .i64, .s, .sl 137, .sl 9, .sl 143], 168, [(0, 1, false), (1, 1, false), (2, 2, true), (4, 1, false), (5, 4, true), (9, 1, false)], false⟩),
  (141, ⟨.slice 184, [.sl 184], 24, [], false⟩),
  (143, ⟨.struct, [.s, .sl 184], 40, [(0, 1, false), (1, 1, false)], false⟩),
  (154, ⟨.struct, [.s, .s, .sl 143], 56, [(0, 1, false), (1, 1, false), (2, 1, false)], false⟩),
  (163, ⟨.slice 5, [.sl 5], 24, [], false⟩),
  (165, ⟨.slice 240, [.sl 240], 24, [], false⟩),
  (166, ⟨.slice 243, [.sl 243], 24, [], false⟩),
  (168, ⟨.struct, [.i .i64, .s, .sl 240, .sl 202, .sl 243], 96, [(0, 1, false), (1, 1, false), (2, 1, false), (3, 1, false), (4, 1, false)], false⟩),
  (170, ⟨.struct, [.s, .s, .sl 202, .sl 243], 80, [(0, 1, false), (1, 1, false), (2, 1, false), (3, 1, false)], false⟩),
  (172, ⟨.struct, [.i .i64, .i .i64, .s, .sl 240, .sl 202, .sl 243, .s, .s, .sl 202, .sl 243, .i .i64, .b, .s, .s, .sl 9, .sl 189, .sl 195, .sl 198, .sl 126, .b, .sl 202], 384, [(0, 1, false), (1, 5, true), (6, 4, true), (10, 11, true)], false⟩),
  (184, ⟨.struct, [.s, .i .i64, .s, .sl 137, .sl 9], 88, [(0, 1, false), (1, 4, true)], false⟩),
  (187, ⟨.struct, [.s, .s], 32, [(0, 1, false), (1, 1, false)], false⟩),
  (189, ⟨.struct, [.s, .s, .sl 195, .s, .s, .sl 202], 112, [(0, 1, false), (1, 1, false), (2, 1, false), (3, 2, true), (5, 1, false)], false⟩),
  (191, ⟨.slice 193, [.sl 193], 24, [], false⟩),
  (193, ⟨.struct, [.i .i64, .s, .sl 193, .sl 9], 72, [(0, 1, false), (1, 1, false), (2, 1, false), (3, 1, false)], false⟩),
  (195, ⟨.struct, [.s, .s, .s, .s, .b, .i .i64, .s, .sl 193, .sl 9, .sl 202], 168, [(0, 1, false), (1, 1, false), (2, 2, true), (4, 1, false), (5, 4, true), (9, 1, false)], false⟩),
  (198, ⟨.struct, [.s, .s, .sl 202], 56, [(0, 1, false), (1, 1, false), (2, 1, false)], false⟩),
  (200, ⟨.slice 235, [.sl 235], 24, [], false⟩),
  (202, ⟨.struct, [.s, .sl 235], 40, [(0, 1, false), (1, 1, false)], false⟩),
  (214, ⟨.struct, [.s, .s, .s, .b, .i .i64, .s, .sl 137, .sl 9, .sl 143], 152, [(0, 1, false), (1, 2, true), (3, 1, false), (4, 4, true), (8, 1, false)], false⟩),
  (216, ⟨.struct, [.i .i64, .s, .s, .s, .sl 184, .sl 143, .sl 216], 128, [(0, 1, false), (1, 1, false), (2, 1, false), (3, 1, false), (4, 1, false), (5, 1, false), (6, 1, false)], false⟩),
  (235, ⟨.struct, [.s, .i .i64, .s, .sl 193, .sl 9], 88, [(0, 1, false), (1, 4, true)], false⟩),
  (240, ⟨.struct, [.s, .s, .s, .b, .i .i64, .s, .sl 193, .sl 9, .sl 202], 152, [(0, 1, false), (1, 2, true), (3, 1, false), (4, 4, true), (8, 1, false)], false⟩),
  (243, ⟨.struct, [.i .i64, .s, .s, .s, .sl 235, .sl 202, .sl 243], 128, [(0, 1, false), (1, 1, false), (2, 1, false), (3, 1, false), (4, 1, false), (5, 1, false), (6, 1, false)], false⟩)]
theorem tys : tyB Tryz.prog tyL = true := by kernel_rfl
noncomputable def fi78 : FI := mkFI Tryz.f78 1 [.ct (.i .i64)] [(false, [.ct .s])] (fun _ => (.s .n (.s .n (.s .n (.s (.b (.b (.s .n (.b (.s (.r [0, 0, 0, 0, 0, 0, 0, 0, 0] none) .n) ⟨oi :: ou :: ou :: os :: uu 16 [], .u :: []⟩)) ⟨oi :: ou :: ou :: os :: uu 16 [], .u :: []⟩) ⟨uu 3 (os :: uu 16 []), .u :: []⟩) .n)))))
noncomputable def E_laws_markTextL1 : List DC → Out := fun v1 =>
    if (decide ((v1.getD 0 d0).ii > (0 : Int))) = true then
      Out.andThenB (if (10 : Int) = 0 then
          .fail
        else
          if (rowBytes [[DC.i (IntKind.u8.wrap (IntKind.i64.wrap ((48 : Int) + (((v1.getD 0 d0).ii).tmod (10 : Int)))))]]).length + ((v1.getD 1 d0).ss).length < LIM then
            if (10 : Int) = 0 then
              .fail
            else
              .norm [.i (IntKind.i64.wrap (((v1.getD 0 d0).ii).tdiv (10 : Int))), .s ((rowBytes [[DC.i (IntKind.u8.wrap (IntKind.i64.wrap ((48 : Int) + (((v1.getD 0 d0).ii).tmod (10 : Int)))))]]) ++ ((v1.getD 1 d0).ss))]
          else
            .fail) 1 fun v2 =>
      .norm [.i ((v2.getD 0 d0).ii), .s ((v2.getD 1 d0).ss)]
    else
      .ex 0 [.s ((v1.getD 1 d0).ss)]
noncomputable def E_laws_markText (a : List DC) : Out :=
    if (decide ((a.getD 0 d0).ii ≤ (0 : Int))) = true then
      .ret [.s ([109, 48] : List UInt8)]
    else
      Out.andThenB (Loop E_laws_markTextL1 [.i ((a.getD 0 d0).ii), .s ([] : List UInt8)]) 0 fun v3 =>
      if ([109] : List UInt8).length + ((v3.getD 0 d0).ss).length < LIM then
        .ret [.s (([109] : List UInt8) ++ ((v3.getD 0 d0).ss))]
      else
        .fail
noncomputable def cfg0 : Cfg := ⟨fun t => look t tyL, fun f => look f [(78, fi78)]⟩
theorem fns0 : ∀ x ∈ [(78, fi78)], FnOk Tryz.prog Glob.none cfg0.ty x.1 x.2 := all_cons (mkFI_ok Tryz.func78 (by kernel_rfl)) all_nil
theorem eq0 (a : List DC) : Run cfg0 78 ⟨[.one (.i .i64)], []⟩ a = E_laws_markText a := (Run_eq cfg0 78 _ a).trans (by kernel_rfl)
theorem mt_step (k : Int) (o : List UInt8) (h0 : 0 < k) (h1 : k < 4611686018427387904) (ho : o.length ≤ 100) : ∃ c, E_laws_markTextL1 [.i k, .s o] = .norm [.i (k / 10), .s (c :: o)] := by
  have hw : IntKind.i64.wrap (k.tdiv 10) = k / 10 := by
    rw [Int.tdiv_eq_ediv_of_nonneg (by omega)]
    exact wrap64 (by omega) (by omega)
  have hl : 1 + o.length < LIM := by unfold LIM; omega
  refine ⟨UInt8.ofNat (IntKind.u8.wrap (IntKind.i64.wrap (48 + k.tmod 10))).toNat, ?_⟩
  simp only [E_laws_markTextL1, List.getD_cons_zero, List.getD_cons_succ, DC.ii_i, DC.ss_s, hw]
  simp [h0, hl, rowBytes, Out.andThenB]
  try rfl
theorem mt_loop : ∀ (m : Nat) (k : Int) (o : List UInt8), 0 ≤ k → k < 4611686018427387904 → k < 10 ^ m → o.length + m ≤ 100 → ∃ s : List UInt8, s.length ≤ 100 ∧ Loop E_laws_markTextL1 [.i k, .s o] = .ex 0 [.s s]
  | 0, k, o, h0, _, h1, ho => by
    have : k = 0 := by simp at h1; omega
    subst this
    exact ⟨o, by omega, Loop_ex (by simp [E_laws_markTextL1])⟩
  | m + 1, k, o, h0, hb, h1, ho => by
    by_cases hk : 0 < k
    · obtain ⟨c, hc⟩ := mt_step k o hk hb (by omega)
      rw [Loop_norm hc]
      refine mt_loop m (k / 10) (c :: o) (by omega) (by omega) ?_ (by simp; omega)
      rw [Int.pow_succ] at h1
      omega
    · have : k = 0 := by omega
      subst this
      exact ⟨o, by omega, Loop_ex (by simp [E_laws_markTextL1])⟩
theorem mt_ok (k : Int) (h0 : 0 ≤ k) (h1 : k < 4611686018427387904) : ∃ s, E_laws_markText [.i k] = .ret [.s s] := by
  by_cases hk : k ≤ 0
  · exact ⟨[109, 48], by simp [E_laws_markText, hk]⟩
  · obtain ⟨s, hs, h⟩ := mt_loop 19 k [] h0 h1 (by have : (10 : Int) ^ 19 = 10000000000000000000 := by decide
                                                   omega) (by simp)
    have hl : 1 + s.length < LIM := by unfold LIM; omega
    refine ⟨109 :: s, ?_⟩
    simp only [E_laws_markText, List.getD_cons_zero, List.getD_cons_succ, DC.ii_i, DC.ss_s, h, Out.andThenB]
    simp [hk, hl, Nat.add_comm]
    try (unfold LIM; omega)
noncomputable def mtx (k : Int) : List UInt8 := match E_laws_markText [.i k] with | .ret [.s s] => s | _ => []
theorem mtx_eq {k : Int} (h0 : 0 ≤ k) (h1 : k < 4611686018427387904) : E_laws_markText [.i k] = .ret [.s (mtx k)] := by
  obtain ⟨s, h⟩ := mt_ok k h0 h1
  unfold mtx
  rw [h]
noncomputable def mT : Int → Option (List UInt8) := fun k => some (mtx k)
def ms27 : List MA := [.int 0, .inc, .bool 1, .inc, .txt 2, .inc, .txt 3, .inc, .sub 4 59, .upd, .sub 5 60, .upd, .sub 6 48, .upd, .sub 7 61, .upd, .sub 8 47, .upd, .bool 9, .inc, .sub 10 49, .upd]
def ms28 : List MA := [.int 0, .inc, .txt 1, .inc, .txt 2, .inc]
def ms47 : List MA := [.int 0, .inc, .txt 1, .inc]
def ms48 : List MA := [.txt 0, .inc, .txt 1, .inc, .txt 2, .inc, .txt 3, .inc, .bool 4, .inc, .int 5, .inc, .txt 6, .inc, .sub 7 97, .upd, .sub 8 59, .upd, .sub 9 49, .upd]
def ms49 : List MA := [.txt 0, .inc, .sub 1 98, .upd]
def ms59 : List MA := [.txt 0, .inc]
def ms60 : List MA := [.txt 0, .inc, .txt 1, .inc, .sub 2 48, .upd, .txt 3, .inc, .txt 4, .inc, .sub 5 49, .upd]
def ms61 : List MA := [.txt 0, .inc, .txt 1, .inc, .sub 2 49, .upd]
def ms82 : List MA := [.int 0, .inc, .int 1, .inc, .txt 2, .inc, .sub 3 123, .upd, .sub 4 49, .upd, .sub 5 124, .upd, .txt 6, .inc, .txt 7, .inc, .sub 8 49, .upd, .sub 9 124, .upd, .int 10, .inc, .bool 11, .inc, .txt 12, .inc, .txt 13, .inc, .sub 14 59, .upd, .sub 15 60, .upd, .sub 16 48, .upd, .sub 17 61, .upd, .sub 18 47, .upd, .bool 19, .inc, .sub 20 49, .upd]
def ms97 : List MA := [.int 0, .inc, .txt 1, .inc, .sub 2 97, .upd, .sub 3 59, .upd]
def ms98 : List MA := [.txt 0, .inc, .int 1, .inc, .txt 2, .inc, .sub 3 97, .upd, .sub 4 59, .upd]
def ms123 : List MA := [.txt 0, .inc, .txt 1, .inc, .txt 2, .inc, .bool 3, .inc, .int 4, .inc, .txt 5, .inc, .sub 6 97, .upd, .sub 7 59, .upd, .sub 8 49, .upd]
def ms124 : List MA := [.int 0, .inc, .txt 1, .inc, .txt 2, .inc, .txt 3, .inc, .sub 4 98, .upd, .sub 5 49, .upd, .sub 6 124, .upd]
noncomputable def ti9 : TI := ⟨.str, [.s], 16, [], false⟩
noncomputable def ti32 : TI := ⟨.struct, [.s, .s, .sl 139, .s, .s, .sl 143], 112, [(0, 1, false), (1, 1, false), (2, 1, false), (3, 2, true), (5, 1, false)], false⟩
noncomputable def ti49 : TI := ⟨.struct, [.i .i64, .b, .s, .s, .sl 9, .sl 32, .sl 139, .sl 154, .sl 131, .b, .sl 143], 200, [(0, 1, false), (1, 1, false), (2, 1, false), (3, 1, false), (4, 1, false), (5, 1, false), (6, 1, false), (7, 1, false), (8, 1, false), (9, 1, false), (10, 1, false)], false⟩
noncomputable def ti102 : TI := ⟨.struct, [.i .i64, .s, .s], 40, [(0, 1, false), (1, 1, false), (2, 1, false)], false⟩
noncomputable def ti120 : TI := ⟨.struct, [.i .i64, .i .i64, .s, .sl 214, .sl 143, .sl 216, .s, .s, .sl 143, .sl 216, .i .i64, .b, .s, .s, .sl 9, .sl 32, .sl 139, .sl 154, .sl 131, .b, .sl 143], 384, [(0, 1, false), (1, 5, true), (6, 4, true), (10, 11, true)], false⟩
noncomputable def ti131 : TI := ⟨.struct, [.i .i64, .s], 24, [(0, 1, false), (1, 1, false)], false⟩
noncomputable def ti137 : TI := ⟨.struct, [.i .i64, .s, .sl 137, .sl 9], 72, [(0, 1, false), (1, 1, false), (2, 1, false), (3, 1, false)], false⟩
noncomputable def ti139 : TI := ⟨.struct, [.s, .s, .s, .s, .b, .i .i64, .s, .sl 137, .sl 9, .sl 143], 168, [(0, 1, false), (1, 1, false), (2, 2, true), (4, 1, false), (5, 4, true), (9, 1, false)], false⟩
noncomputable def ti143 : TI := ⟨.struct, [.s, .sl 184], 40, [(0, 1, false), (1, 1, false)], false⟩
noncomputable def ti154 : TI := ⟨.struct, [.s, .s, .sl 143], 56, [(0, 1, false), (1, 1, false), (2, 1, false)], false⟩
noncomputable def ti184 : TI := ⟨.struct, [.s, .i .i64, .s, .sl 137, .sl 9], 88, [(0, 1, false), (1, 4, true)], false⟩
noncomputable def ti214 : TI := ⟨.struct, [.s, .s, .s, .b, .i .i64, .s, .sl 137, .sl 9, .sl 143], 152, [(0, 1, false), (1, 2, true), (3, 1, false), (4, 4, true), (8, 1, false)], false⟩
noncomputable def ti216 : TI := ⟨.struct, [.i .i64, .s, .s, .s, .sl 184, .sl 143, .sl 216], 128, [(0, 1, false), (1, 1, false), (2, 1, false), (3, 1, false), (4, 1, false), (5, 1, false), (6, 1, false)], false⟩
def mTab : Nat → Option (List MA) := fun f => look f [(27, ms27), (28, ms28), (47, ms47), (48, ms48), (49, ms49), (59, ms59), (60, ms60), (61, ms61), (82, ms82), (97, ms97), (98, ms98), (123, ms123), (124, ms124)]
def mMt : Nat → Option Nat := fun f => look f [(27, 49), (28, 102), (47, 131), (48, 139), (49, 143), (59, 9), (60, 32), (61, 154), (82, 120), (97, 137), (98, 184), (123, 214), (124, 216)]
theorem mtabok : TabOk Tryz.prog (fun t => look t tyL) mT 78 mMt mTab where
  tyo := (tyB_ok tys).1
  fd := by
    rintro f (rfl | ⟨e, he⟩)
    · exact ⟨_, Tryz.func78, by kernel_rfl, rfl⟩
    have := look_mem he
    simp only [List.mem_cons, Prod.mk.injEq, List.not_mem_nil, or_false] at this
    rcases this with ⟨rfl, rfl⟩ | ⟨rfl, rfl⟩ | ⟨rfl, rfl⟩ | ⟨rfl, rfl⟩ | ⟨rfl, rfl⟩ | ⟨rfl, rfl⟩ | ⟨rfl, rfl⟩ | ⟨rfl, rfl⟩ | ⟨rfl, rfl⟩ | ⟨rfl, rfl⟩ | ⟨rfl, rfl⟩ | ⟨rfl, rfl⟩ | ⟨rfl, rfl⟩
    · exact ⟨_, Tryz.func27, by kernel_rfl, rfl⟩
    · exact ⟨_, Tryz.func28, by kernel_rfl, rfl⟩
    · exact ⟨_, Tryz.func47, by kernel_rfl, rfl⟩
    · exact ⟨_, Tryz.func48, by kernel_rfl, rfl⟩
    · exact ⟨_, Tryz.func49, by kernel_rfl, rfl⟩
    · exact ⟨_, Tryz.func59, by kernel_rfl, rfl⟩
    · exact ⟨_, Tryz.func60, by kernel_rfl, rfl⟩
    · exact ⟨_, Tryz.func61, by kernel_rfl, rfl⟩
    · exact ⟨_, Tryz.func82, by kernel_rfl, rfl⟩
    · exact ⟨_, Tryz.func97, by kernel_rfl, rfl⟩
    · exact ⟨_, Tryz.func98, by kernel_rfl, rfl⟩
    · exact ⟨_, Tryz.func123, by kernel_rfl, rfl⟩
    · exact ⟨_, Tryz.func124, by kernel_rfl, rfl⟩
  tfc := by
    intro k s w h0 h1 hs
    obtain rfl : mtx k = s := Option.some.inj hs
    exact int_calls (cfg := cfg0) (G := Glob.none) (tyB_ok tys).1 (by kernel_rfl) (fn_ok fns0) (f := 78) (fi := fi78) (by kernel_rfl) ⟨trivial, fun _ h => h.elim⟩ rfl rfl (Run.evt ((eq0 _).trans (mtx_eq h0 h1)))
  tfs := fun k _ _ => ⟨_, rfl⟩
  sh := by
    intro f e he
    have := look_mem he
    simp only [List.mem_cons, Prod.mk.injEq, List.not_mem_nil, or_false] at this
    rcases this with ⟨rfl, rfl⟩ | ⟨rfl, rfl⟩ | ⟨rfl, rfl⟩ | ⟨rfl, rfl⟩ | ⟨rfl, rfl⟩ | ⟨rfl, rfl⟩ | ⟨rfl, rfl⟩ | ⟨rfl, rfl⟩ | ⟨rfl, rfl⟩ | ⟨rfl, rfl⟩ | ⟨rfl, rfl⟩ | ⟨rfl, rfl⟩ | ⟨rfl, rfl⟩
    · exact ⟨ti49, Tryz.f27, ms27, by kernel_rfl, Tryz.func27, by kernel_rfl, by kernel_rfl⟩
    · exact ⟨ti102, Tryz.f28, ms28, by kernel_rfl, Tryz.func28, by kernel_rfl, by kernel_rfl⟩
    · exact ⟨ti131, Tryz.f47, ms47, by kernel_rfl, Tryz.func47, by kernel_rfl, by kernel_rfl⟩
    · exact ⟨ti139, Tryz.f48, ms48, by kernel_rfl, Tryz.func48, by kernel_rfl, by kernel_rfl⟩
    · exact ⟨ti143, Tryz.f49, ms49, by kernel_rfl, Tryz.func49, by kernel_rfl, by kernel_rfl⟩
    · exact ⟨ti9, Tryz.f59, ms59, by kernel_rfl, Tryz.func59, by kernel_rfl, by kernel_rfl⟩
    · exact ⟨ti32, Tryz.f60, ms60, by kernel_rfl, Tryz.func60, by kernel_rfl, by kernel_rfl⟩
    · exact ⟨ti154, Tryz.f61, ms61, by kernel_rfl, Tryz.func61, by kernel_rfl, by kernel_rfl⟩
    · exact ⟨ti120, Tryz.f82, ms82, by kernel_rfl, Tryz.func82, by kernel_rfl, by kernel_rfl⟩
    · exact ⟨ti137, Tryz.f97, ms97, by kernel_rfl, Tryz.func97, by kernel_rfl, by kernel_rfl⟩
    · exact ⟨ti184, Tryz.f98, ms98, by kernel_rfl, Tryz.func98, by kernel_rfl, by kernel_rfl⟩
    · exact ⟨ti214, Tryz.f123, ms123, by kernel_rfl, Tryz.func123, by kernel_rfl, by kernel_rfl⟩
    · exact ⟨ti216, Tryz.f124, ms124, by kernel_rfl, Tryz.func124, by kernel_rfl, by kernel_rfl⟩
noncomputable def h_slices_Clone_string : Hint := ⟨ol 9 :: [], []⟩
noncomputable def h_slices_Clone_impl_Root : Hint := ⟨ol 131 :: [], []⟩
noncomputable def fi6 : FI := mkFI Tryz.f6 23 [.ag [.sl 172]] [(false, [.ct .b])] (fun _ => (.s (.r [0, 0] none) (.s .n (.s .n (.s .n (.s (.r [0, 1, 2, 0, 0, 0, 0, 0] none) (.s (.r [0, 4, 5, 0] none) (.s (.r [0, 6, 0, 0, 0, 0, 0] none) (.s (.s (.r [] (some ⟨ou :: .one (.ptr 0 0) :: ou :: ou :: .one (.own 1049 8) :: .one (.own 102 9) :: .one (.ptr 5 0) :: .one (.own 1049 10) :: .one (.own 102 11) :: uu 32 (ob :: uu 70 []), .var 67 [.sl 172] :: vv 4 (.var 72 [.own 1120 12] :: vv 17 [])⟩)) .n) (.s (.s (.r [0, 0, 13, 0, 0] none) .n) (.s .n (.s .n (.s (.s (.r [] (some ⟨ou :: .one (.ptr 0 0) :: ou :: ou :: .one (.own 1049 14) :: .one (.own 102 15) :: ou :: .one (.own 1049 16) :: .one (.own 102 17) :: uu 54 (ob :: uu 48 []), .var 67 [.sl 172] :: vv 22 []⟩)) .n) (.s .n (.s .n (.s .n (.s .n (.s .n (.s .n (.s .n (.s .n (.s .n (.s (.r [0, 18, 19, 0, 0, 0, 0, 0] none) (.s (.s (.r [] (some ⟨uu 7 (.one (.own 1049 21) :: .one (.own 102 22) :: ou :: oi :: uu 87 (ob :: uu 13 [])), vv 23 []⟩)) .n) .n))))))))))))))))))))))))
noncomputable def fi31 : FI := mkFI Tryz.f31 1 [.ag [.sl 172], .ct (.i .i64)] [(false, [.ct (.i .i64)])] (fun _ => (.s (.r [0, 0] none) .n))
noncomputable def fi33 : FI := mkFI Tryz.f33 4 [.ag [.sl 172]] [(true, [.new 1120])] (fun _ => (.s (.r [0, 1] none) (.s (.r [2] none) (.s (.r [0, 0, 3, 0, 0] none) .n))))
noncomputable def fi32 : FI := mkFI Tryz.f32 30 [.ag [.sl 120]] [(false, [.new 1049]), (false, [.new 102])] (fun _ => (.s (.r [0, 0, 0] none) (.s (.r [1, 0] none) (.s (.r [2, 0] none) (.s (.s .n (.b (.b (.s .n (.s (.b (.s (.r [0, 0, 0, 0, 0, 5, 0] none) (.s .n (.b (.s .n (.c (.r [0, 0, 0, 6, 13, 14, 0] none) (.s .n (.c (.r [0, 0, 0, 0, 0, 16, 17, 0] none) (.r [0, 0, 0, 0, 0, 18, 19, 0] none) (some ⟨ou :: .one (.ptr 0 0) :: ou :: ou :: .one (.own 1049 20) :: .one (.own 102 21) :: oi :: uu 43 [], .var 72 [.sl 120] :: vv 29 []⟩))) (some ⟨ou :: .one (.ptr 0 0) :: ou :: ou :: .one (.own 1049 22) :: .one (.own 102 23) :: oi :: uu 43 [], .var 72 [.sl 120] :: vv 29 []⟩))) ⟨ou :: .one (.ptr 0 0) :: ou :: ou :: .one (.own 1049 24) :: .one (.own 102 25) :: oi :: uu 43 [], .var 72 [.sl 120] :: vv 29 []⟩))) ⟨ou :: .one (.ptr 0 0) :: ou :: ou :: .one (.own 1049 26) :: .one (.own 102 27) :: oi :: uu 43 [], .var 72 [.sl 120] :: vv 29 []⟩) .n)) ⟨ou :: .one (.ptr 0 0) :: ou :: ou :: .one (.own 1049 3) :: .one (.own 102 4) :: oi :: uu 43 [], .var 72 [.sl 120] :: vv 29 []⟩) ⟨uu 4 (.one (.own 1049 28) :: .one (.own 102 29) :: uu 44 []), vv 30 []⟩)) .n)))))
noncomputable def fi34 : FI := mkFI Tryz.f34 30 [.ag [.sl 120]] [(false, [.new 1049]), (false, [.new 102])] (fun _ => (.s (.r [0, 0, 0] none) (.s (.r [1, 0] none) (.s (.r [2, 0] none) (.s (.s .n (.b (.b (.s .n (.s .n (.s (.b (.s (.r [0, 0, 5, 0] none) (.s .n (.b (.s .n (.c (.r [0, 0, 0, 6, 13, 14, 0] none) (.s .n (.c (.r [0, 0, 0, 0, 0, 16, 17, 0] none) (.r [0, 0, 0, 0, 0, 18, 19, 0] none) (some ⟨uu 4 (.one (.own 1049 20) :: .one (.own 102 21) :: uu 5 (ol 120 :: oi :: oi :: uu 32 [])), vv 30 []⟩))) (some ⟨uu 4 (.one (.own 1049 22) :: .one (.own 102 23) :: uu 5 (ol 120 :: oi :: oi :: uu 32 [])), vv 30 []⟩))) ⟨uu 4 (.one (.own 1049 24) :: .one (.own 102 25) :: uu 5 (ol 120 :: oi :: oi :: uu 32 [])), vv 30 []⟩))) ⟨uu 4 (.one (.own 1049 26) :: .one (.own 102 27) :: uu 5 (ol 120 :: oi :: oi :: uu 32 [])), vv 30 []⟩) .n))) ⟨uu 4 (.one (.own 1049 3) :: .one (.own 102 4) :: uu 5 (ol 120 :: oi :: oi :: uu 32 [])), vv 30 []⟩) ⟨uu 4 (.one (.own 1049 28) :: .one (.own 102 29) :: uu 40 []), vv 30 []⟩)) .n)))))
noncomputable def fi25 : FI := mkFI Tryz.f25 0 [.ct (.sl 49), .ct (.sl 49)] [(false, [.ct .b])] (fun _ => (.s .n (.s .n (.s (.s .n (.b (.b (.s .n (.s (.b .n ⟨ol 49 :: ol 49 :: uu 3 (oi :: uu 21 []), []⟩) .n)) ⟨ol 49 :: ol 49 :: uu 3 (oi :: uu 21 []), []⟩) ⟨uu 27 [], []⟩)) .n))))
noncomputable def fi26 : FI := mkFI Tryz.f26 0 [.ct (.sl 102), .ct (.sl 102)] [(false, [.ct .b])] (fun _ => (.s .n (.s .n (.s (.s .n (.b (.b (.s .n (.s (.b .n ⟨ol 102 :: ol 102 :: uu 3 (oi :: uu 21 []), []⟩) .n)) ⟨ol 102 :: ol 102 :: uu 3 (oi :: uu 21 []), []⟩) ⟨uu 27 [], []⟩)) .n))))
noncomputable def fi35 : FI := mkFI Tryz.f35 2 [.ag [.sl 120], .ag [.sl 120]] [(false, [.ct .b])] (fun _ => (.s (.r [0, 1, 0] none) .n))
noncomputable def fi29 : FI := mkFI Tryz.f29 0 [.ct (.sl 49), .ct (.i .i64)] [(false, [.ct (.i .i64)])] (fun _ => (.s .n (.s (.s .n (.b (.b (.s .n (.s (.b .n ⟨ol 49 :: oi :: uu 3 (oi :: uu 112 []), []⟩) .n)) ⟨ol 49 :: oi :: uu 3 (oi :: uu 112 []), []⟩) ⟨ou :: oi :: uu 116 [], []⟩)) .n)))
noncomputable def fi30 : FI := mkFI Tryz.f30 0 [.ct (.sl 102), .ct (.i .i64)] [(false, [.ct (.i .i64)])] (fun _ => (.s .n (.s (.s .n (.b (.b (.s .n (.s (.b .n ⟨ol 102 :: oi :: uu 3 (oi :: uu 36 []), []⟩) .n)) ⟨ol 102 :: oi :: uu 3 (oi :: uu 36 []), []⟩) ⟨ou :: oi :: uu 40 [], []⟩)) .n)))
noncomputable def fi79 : FI := mkFI Tryz.f79 0 [.ct (.sl 172), .ct (.i .i64)] [(false, [.ct (.i .i64)])] (fun _ => (.s .n (.s .n (.s .n (.s (.s .n (.b (.b (.s .n (.s (.b .n ⟨ol 172 :: oi :: uu 3 (oi :: uu 21 []), []⟩) .n)) ⟨ol 172 :: oi :: uu 3 (oi :: uu 21 []), []⟩) ⟨ou :: oi :: uu 25 [], []⟩)) .n)))))
noncomputable def fi80 : FI := mkFI Tryz.f80 16 [.ct (.sl 172)] [(false, [.new 1120])] (fun _ => (.s .n (.s (.r [0, 0, 1, 0] none) (.s (.s .n (.b (.b (.s .n (.s (.b (.r [0, 0, 0, 0, 0, 0, 3, 0, 0] none) ⟨ol 172 :: ou :: ou :: .one (.own 1120 14) :: oi :: uu 18 [], vv 16 []⟩) .n)) ⟨ol 172 :: ou :: ou :: .one (.own 1120 2) :: oi :: uu 18 [], vv 16 []⟩) ⟨uu 3 (.one (.own 1120 15) :: uu 19 []), vv 16 []⟩)) .n))))
noncomputable def fi53 : FI := mkFI Tryz.f53 11 [.ag [.i .i64, .b, .s, .s, .sl 9, .sl 32, .sl 139, .sl 154, .sl 131, .b, .sl 143]] [(true, [.ct (.i .i64), .ct .b, .ct .s, .ct .s, .new 9, .new 1032, .new 1139, .new 1154, .new 131, .ct .b, .new 1143])] (fun _ => (.s (.r [0, 1] none) (.s (.r [2, 0, 0, 3, 0, 0] none) (.s (.r [0, 0, 4, 0, 0] none) (.s (.r [0, 0, 5, 0, 0] none) (.s (.r [0, 0, 6, 0, 0] none) (.s (.r [8, 0, 0, 9, 0, 0] none) (.s (.r [0, 0, 10, 0, 0] none) .n))))))))
noncomputable def fi55 : FI := mkFI Tryz.f55 8 [.ag [.i .i64, .b, .s, .s, .sl 9, .sl 32, .sl 139, .sl 154, .sl 131, .b, .sl 143]] [(true, [.ct (.i .i64), .ct .b, .ct .s, .ct .s, .new 9, .new 1032, .new 1139, .new 1154, .new 131, .ct .b, .new 1143])] (fun _ => (.s (.r [0, 1] none) (.s (.r [0, 0, 2, 0, 0] none) (.s (.r [0, 0, 3, 0, 0] none) (.s (.r [0, 0, 4, 0, 0] none) (.s (.r [0, 0, 5, 0, 0] none) (.s (.r [0, 0, 6, 0, 0] none) (.s (.r [0, 0, 7, 0, 0] none) .n))))))))
noncomputable def fi18 : FI := mkFI Tryz.f18 2 [.ag [.i .i64, .b, .s, .s, .sl 9, .sl 32, .sl 139, .sl 154, .sl 131, .b, .sl 143], .ag [.i .i64, .b, .s, .s, .sl 9, .sl 32, .sl 139, .sl 154, .sl 131, .b, .sl 143]] [(false, [.ct .b])] (fun _ => (.s (.r [0, 1, 0] none) .n))
noncomputable def fi77 : FI := mkFI Tryz.f77 2 [.ag [.i .i64, .s, .s], .ag [.i .i64, .s, .s]] [(false, [.ct .b])] (fun _ => (.s (.r [0, 1, 0] none) .n))
noncomputable def fi81 : FI := mkFI Tryz.f81 0 [.ct (.sl 120), .ct (.sl 120)] [(false, [.ct .b])] (fun _ => (.s .n (.s .n (.s (.s .n (.b (.b (.s .n (.s (.b .n ⟨ol 120 :: ol 120 :: uu 3 (oi :: uu 21 []), []⟩) .n)) ⟨ol 120 :: ol 120 :: uu 3 (oi :: uu 21 []), []⟩) ⟨uu 27 [], []⟩)) .n))))
noncomputable def fi62 : FI := mkFI Tryz.f62 0 [.ct (.sl 9), .ct (.i .i64)] [(false, [.ct (.i .i64)])] (fun _ => (.s .n (.s (.s .n (.b (.b (.s .n (.s (.b .n ⟨ol 9 :: oi :: uu 3 (oi :: uu 16 []), []⟩) .n)) ⟨ol 9 :: oi :: uu 3 (oi :: uu 16 []), []⟩) ⟨ou :: oi :: uu 20 [], []⟩)) .n)))
noncomputable def fi63 : FI := mkFI Tryz.f63 0 [.ct (.sl 32), .ct (.i .i64)] [(false, [.ct (.i .i64)])] (fun _ => (.s .n (.s (.s .n (.b (.b (.s .n (.s (.b .n ⟨ol 32 :: oi :: uu 3 (oi :: uu 67 []), []⟩) .n)) ⟨ol 32 :: oi :: uu 3 (oi :: uu 67 []), []⟩) ⟨ou :: oi :: uu 71 [], []⟩)) .n)))
noncomputable def fi50 : FI := mkFI Tryz.f50 0 [.ct (.sl 139), .ct (.i .i64)] [(false, [.ct (.i .i64)])] (fun _ => (.s .n (.s (.s .n (.b (.b (.s .n (.s (.b .n ⟨ol 139 :: oi :: uu 3 (oi :: uu 110 []), []⟩) .n)) ⟨ol 139 :: oi :: uu 3 (oi :: uu 110 []), []⟩) ⟨ou :: oi :: uu 114 [], []⟩)) .n)))
noncomputable def fi64 : FI := mkFI Tryz.f64 0 [.ct (.sl 154), .ct (.i .i64)] [(false, [.ct (.i .i64)])] (fun _ => (.s .n (.s (.s .n (.b (.b (.s .n (.s (.b .n ⟨ol 154 :: oi :: uu 3 (oi :: uu 36 []), []⟩) .n)) ⟨ol 154 :: oi :: uu 3 (oi :: uu 36 []), []⟩) ⟨ou :: oi :: uu 40 [], []⟩)) .n)))
noncomputable def fi65 : FI := mkFI Tryz.f65 0 [.ct (.sl 131), .ct (.i .i64)] [(false, [.ct (.i .i64)])] (fun _ => (.s .n (.s (.s .n (.b (.b (.s .n (.s (.b .n ⟨ol 131 :: oi :: uu 3 (oi :: uu 26 []), []⟩) .n)) ⟨ol 131 :: oi :: uu 3 (oi :: uu 26 []), []⟩) ⟨ou :: oi :: uu 30 [], []⟩)) .n)))
noncomputable def fi51 : FI := mkFI Tryz.f51 0 [.ct (.sl 143), .ct (.i .i64)] [(false, [.ct (.i .i64)])] (fun _ => (.s .n (.s (.s .n (.b (.b (.s .n (.s (.b .n ⟨ol 143 :: oi :: uu 3 (oi :: uu 26 []), []⟩) .n)) ⟨ol 143 :: oi :: uu 3 (oi :: uu 26 []), []⟩) ⟨ou :: oi :: uu 30 [], []⟩)) .n)))
noncomputable def fi120 : FI := mkFI Tryz.f120 1 [.ag [.i .i64, .i .i64, .s, .sl 240, .sl 202, .sl 243, .s, .s, .sl 202, .sl 243, .i .i64, .b, .s, .s, .sl 9, .sl 189, .sl 195, .sl 198, .sl 126, .b, .sl 202], .ct (.i .i64)] [(false, [.ct (.i .i64)])] (fun _ => (.s (.r [0, 0] none) .n))
noncomputable def fi121 : FI := mkFI Tryz.f121 14 [.ag [.i .i64, .i .i64, .s, .sl 240, .sl 202, .sl 243, .s, .s, .sl 202, .sl 243, .i .i64, .b, .s, .s, .sl 9, .sl 189, .sl 195, .sl 198, .sl 126, .b, .sl 202]] [(true, [.ct (.i .i64), .ct (.i .i64), .ct .s, .new 1214, .new 1143, .new 1216, .ct .s, .ct .s, .new 1143, .new 1216, .ct (.i .i64), .ct .b, .ct .s, .ct .s, .new 9, .new 1032, .new 1139, .new 1154, .new 131, .ct .b, .new 1143])] (fun _ => (.s (.r [0, 1] none) (.s (.r [2] none) (.s .n (.s (.r [0, 0, 3, 0, 0] none) (.s (.r [0, 0, 6, 0, 0] none) (.s (.r [0, 0, 8, 0, 0] none) .n)))))))
noncomputable def fi39 : FI := mkFI Tryz.f39 11 [.ct (.sl 32)] [(false, [.new 1032])] (fun _ => (.s .n (.s (.r [1, 0] none) (.s (.s .n (.b (.b (.s .n (.s (.b (.s (.r [0, 0, 0, 0, 3, 0] none) (.s (.r [0, 0, 4, 0, 0] none) (.s (.r [0, 0, 5, 0, 0] none) (.r [0, 0, 7, 8, 0] none)))) ⟨ol 32 :: ou :: ou :: .one (.own 1032 9) :: oi :: uu 25 [], vv 11 []⟩) .n)) ⟨ol 32 :: ou :: ou :: .one (.own 1032 2) :: oi :: uu 25 [], vv 11 []⟩) ⟨uu 3 (.one (.own 1032 10) :: uu 26 []), vv 11 []⟩)) .n))))
noncomputable def fi86 : FI := mkFI Tryz.f86 11 [.ct (.sl 139)] [(false, [.new 1139])] (fun _ => (.s .n (.s (.r [1, 0] none) (.s (.s .n (.b (.b (.s .n (.s (.b (.s (.r [0, 0, 0, 0, 3, 0] none) (.s (.r [0, 0, 4, 0, 0] none) (.s (.r [0, 0, 6, 0, 0] none) (.r [0, 0, 7, 8, 0] none)))) ⟨ol 139 :: ou :: ou :: .one (.own 1139 9) :: oi :: uu 25 [], vv 11 []⟩) .n)) ⟨ol 139 :: ou :: ou :: .one (.own 1139 2) :: oi :: uu 25 [], vv 11 []⟩) ⟨uu 3 (.one (.own 1139 10) :: uu 26 []), vv 11 []⟩)) .n))))
noncomputable def fi102 : FI := mkFI Tryz.f102 9 [.ct (.sl 154)] [(false, [.new 1154])] (fun _ => (.s .n (.s (.r [1, 0] none) (.s (.s .n (.b (.b (.s .n (.s (.b (.s (.r [0, 0, 0, 0, 3, 0] none) (.s (.r [0, 0, 4, 0, 0] none) (.r [0, 0, 5, 6, 0] none))) ⟨ol 154 :: ou :: ou :: .one (.own 1154 7) :: oi :: uu 21 [], vv 9 []⟩) .n)) ⟨ol 154 :: ou :: ou :: .one (.own 1154 2) :: oi :: uu 21 [], vv 9 []⟩) ⟨uu 3 (.one (.own 1154 8) :: uu 22 []), vv 9 []⟩)) .n))))
noncomputable def fi87 : FI := mkFI Tryz.f87 9 [.ct (.sl 143)] [(false, [.new 1143])] (fun _ => (.s .n (.s (.r [1, 0] none) (.s (.s .n (.b (.b (.s .n (.s (.b (.r [0, 0, 0, 0, 0, 0, 0, 0, 0, 0, 0, 3, 0, 5, 6, 0] none) ⟨ol 143 :: ou :: ou :: .one (.own 1143 7) :: oi :: uu 23 [], vv 9 []⟩) .n)) ⟨ol 143 :: ou :: ou :: .one (.own 1143 2) :: oi :: uu 23 [], vv 9 []⟩) ⟨uu 3 (.one (.own 1143 8) :: uu 24 []), vv 9 []⟩)) .n))))
noncomputable def fi105 : FI := { mkFI Tryz.f105 4 [.ct (.sl 9)] [(false, [.new 9])] (fun _ => .n) with prim := some (primC 9) }
noncomputable def ac105 : AC := ann (clCond (Tryz.f105.body.getD .skip)) .n
noncomputable def ar105 : AC := ann (clRest (Tryz.f105.body.getD .skip)) (.s (.r [0, 0, 2, 0] none) .n)
theorem cl105 : ∀ b l, (b = true → l = []) → l.length < LIM → clRun (fun t => look t tyL) fi105 9 ac105 ar105 b l = .ret [.sl l] := by
  intro b l h1 h2
  cases b with
  | true =>
    obtain rfl := h1 rfl
    kernel_rfl
  | false =>
    refine (show clRun (fun t => look t tyL) fi105 9 ac105 ar105 false l = (if ([] : List (List DC)).length + l.length < LIM then Out.ret [.sl ([] ++ l)] else .fail) from by kernel_rfl).trans ?_
    rw [if_pos (by simpa using h2), List.nil_append]
noncomputable def fi42 : FI := mkFI Tryz.f42 8 [.ct (.sl 32)] [(false, [.new 1032])] (fun _ => (.s .n (.s .n (.s (.s .n (.b (.b (.s .n (.s .n (.s (.b (.s (.r [0, 0, 0, 0] none) (.s (.r [0, 0, 1, 0, 0] none) (.s (.r [0, 0, 2, 0, 0] none) (.r [0, 0, 3, 4, 0] none)))) ⟨uu 3 (.one (.own 1032 5) :: ou :: ou :: ol 32 :: oi :: oi :: uu 17 []), vv 8 []⟩) .n))) ⟨uu 3 (.one (.own 1032 6) :: ou :: ou :: ol 32 :: oi :: oi :: uu 17 []), vv 8 []⟩) ⟨uu 3 (.one (.own 1032 7) :: uu 22 []), vv 8 []⟩)) .n))))
noncomputable def fi92 : FI := mkFI Tryz.f92 10 [.ct (.sl 139)] [(false, [.new 1139])] (fun _ => (.s .n (.s .n (.s (.s .n (.b (.b (.s .n (.s .n (.s (.b (.s (.r [0, 0, 0, 0] none) (.s (.r [0, 0, 1, 0, 0] none) (.s (.r [0, 0, 3, 0, 0] none) (.r [0, 0, 5, 6, 0] none)))) ⟨uu 3 (.one (.own 1139 7) :: ou :: ou :: ol 139 :: oi :: oi :: uu 17 []), vv 10 []⟩) .n))) ⟨uu 3 (.one (.own 1139 8) :: ou :: ou :: ol 139 :: oi :: oi :: uu 17 []), vv 10 []⟩) ⟨uu 3 (.one (.own 1139 9) :: uu 22 []), vv 10 []⟩)) .n))))
noncomputable def fi106 : FI := mkFI Tryz.f106 8 [.ct (.sl 154)] [(false, [.new 1154])] (fun _ => (.s .n (.s .n (.s (.s .n (.b (.b (.s .n (.s .n (.s (.b (.s (.r [0, 0, 0, 0] none) (.s (.r [0, 0, 1, 0, 0] none) (.r [0, 0, 3, 4, 0] none))) ⟨uu 3 (.one (.own 1154 5) :: ou :: ou :: ol 154 :: oi :: oi :: uu 13 []), vv 8 []⟩) .n))) ⟨uu 3 (.one (.own 1154 6) :: ou :: ou :: ol 154 :: oi :: oi :: uu 13 []), vv 8 []⟩) ⟨uu 3 (.one (.own 1154 7) :: uu 18 []), vv 8 []⟩)) .n))))
noncomputable def fi107 : FI := { mkFI Tryz.f107 4 [.ct (.sl 131)] [(false, [.new 131])] (fun _ => .n) with prim := some (primC 131) }
noncomputable def ac107 : AC := ann (clCond (Tryz.f107.body.getD .skip)) .n
noncomputable def ar107 : AC := ann (clRest (Tryz.f107.body.getD .skip)) (.s (.r [0, 0, 2, 0] none) .n)
theorem cl107 : ∀ b l, (b = true → l = []) → l.length < LIM → clRun (fun t => look t tyL) fi107 131 ac107 ar107 b l = .ret [.sl l] := by
  intro b l h1 h2
  cases b with
  | true =>
    obtain rfl := h1 rfl
    kernel_rfl
  | false =>
    refine (show clRun (fun t => look t tyL) fi107 131 ac107 ar107 false l = (if ([] : List (List DC)).length + l.length < LIM then Out.ret [.sl ([] ++ l)] else .fail) from by kernel_rfl).trans ?_
    rw [if_pos (by simpa using h2), List.nil_append]
noncomputable def fi93 : FI := mkFI Tryz.f93 8 [.ct (.sl 143)] [(false, [.new 1143])] (fun _ => (.s .n (.s .n (.s (.s .n (.b (.b (.s .n (.s .n (.s (.b (.s (.r [0, 0, 0, 0] none) (.r [0, 0, 0, 0, 0, 1, 0, 3, 4, 0] none)) ⟨uu 3 (.one (.own 1143 5) :: ou :: ou :: ol 143 :: oi :: oi :: uu 14 []), vv 8 []⟩) .n))) ⟨uu 3 (.one (.own 1143 6) :: ou :: ou :: ol 143 :: oi :: oi :: uu 14 []), vv 8 []⟩) ⟨uu 3 (.one (.own 1143 7) :: uu 19 []), vv 8 []⟩)) .n))))
noncomputable def fi56 : FI := mkFI Tryz.f56 0 [.ct (.sl 9), .ct (.sl 9)] [(false, [.ct .b])] (fun _ => (.s .n (.s .n (.s (.s .n (.b (.b (.s .n (.s (.b .n ⟨ol 9 :: ol 9 :: uu 3 (oi :: uu 20 []), []⟩) .n)) ⟨ol 9 :: ol 9 :: uu 3 (oi :: uu 20 []), []⟩) ⟨uu 26 [], []⟩)) .n))))
noncomputable def fi57 : FI := mkFI Tryz.f57 0 [.ct (.sl 32), .ct (.sl 32)] [(false, [.ct .b])] (fun _ => (.s .n (.s .n (.s (.s .n (.b (.b (.s .n (.s (.b .n ⟨ol 32 :: ol 32 :: uu 3 (oi :: uu 21 []), []⟩) .n)) ⟨ol 32 :: ol 32 :: uu 3 (oi :: uu 21 []), []⟩) ⟨uu 27 [], []⟩)) .n))))
noncomputable def fi43 : FI := mkFI Tryz.f43 0 [.ct (.sl 139), .ct (.sl 139)] [(false, [.ct .b])] (fun _ => (.s .n (.s .n (.s (.s .n (.b (.b (.s .n (.s (.b .n ⟨ol 139 :: ol 139 :: uu 3 (oi :: uu 21 []), []⟩) .n)) ⟨ol 139 :: ol 139 :: uu 3 (oi :: uu 21 []), []⟩) ⟨uu 27 [], []⟩)) .n))))
noncomputable def fi58 : FI := mkFI Tryz.f58 0 [.ct (.sl 154), .ct (.sl 154)] [(false, [.ct .b])] (fun _ => (.s .n (.s .n (.s (.s .n (.b (.b (.s .n (.s (.b .n ⟨ol 154 :: ol 154 :: uu 3 (oi :: uu 21 []), []⟩) .n)) ⟨ol 154 :: ol 154 :: uu 3 (oi :: uu 21 []), []⟩) ⟨uu 27 [], []⟩)) .n))))
noncomputable def fi46 : FI := mkFI Tryz.f46 0 [.ct (.sl 131), .ct (.sl 131)] [(false, [.ct .b])] (fun _ => (.s .n (.s .n (.s (.s .n (.b (.b (.s .n (.s (.b .n ⟨ol 131 :: ol 131 :: uu 3 (oi :: uu 21 []), []⟩) .n)) ⟨ol 131 :: ol 131 :: uu 3 (oi :: uu 21 []), []⟩) ⟨uu 27 [], []⟩)) .n))))
noncomputable def fi45 : FI := mkFI Tryz.f45 0 [.ct (.sl 143), .ct (.sl 143)] [(false, [.ct .b])] (fun _ => (.s .n (.s .n (.s (.s .n (.b (.b (.s .n (.s (.b .n ⟨ol 143 :: ol 143 :: uu 3 (oi :: uu 21 []), []⟩) .n)) ⟨ol 143 :: ol 143 :: uu 3 (oi :: uu 21 []), []⟩) ⟨uu 27 [], []⟩)) .n))))
noncomputable def fi122 : FI := mkFI Tryz.f122 2 [.ag [.i .i64, .i .i64, .s, .sl 214, .sl 143, .sl 216, .s, .s, .sl 143, .sl 216, .i .i64, .b, .s, .s, .sl 9, .sl 32, .sl 139, .sl 154, .sl 131, .b, .sl 143], .ag [.i .i64, .i .i64, .s, .sl 214, .sl 143, .sl 216, .s, .s, .sl 143, .sl 216, .i .i64, .b, .s, .s, .sl 9, .sl 32, .sl 139, .sl 154, .sl 131, .b, .sl 143]] [(false, [.ct .b])] (fun _ => (.s (.r [0, 1, 0] none) .n))
noncomputable def fi99 : FI := mkFI Tryz.f99 0 [.ct (.sl 137), .ct (.i .i64)] [(false, [.ct (.i .i64)])] (fun _ => (.s .n (.s (.s .n (.b (.b (.s .n (.s (.b .n ⟨ol 137 :: oi :: uu 3 (oi :: uu 44 []), []⟩) .n)) ⟨ol 137 :: oi :: uu 3 (oi :: uu 44 []), []⟩) ⟨ou :: oi :: uu 48 [], []⟩)) .n)))
noncomputable def fi100 : FI := mkFI Tryz.f100 0 [.ct (.sl 184), .ct (.i .i64)] [(false, [.ct (.i .i64)])] (fun _ => (.s .n (.s (.s .n (.b (.b (.s .n (.s (.b .n ⟨ol 184 :: oi :: uu 3 (oi :: uu 58 []), []⟩) .n)) ⟨ol 184 :: oi :: uu 3 (oi :: uu 58 []), []⟩) ⟨ou :: oi :: uu 62 [], []⟩)) .n)))
noncomputable def fi146 : FI := mkFI Tryz.f146 1 [.ag [.i .i64, .s, .sl 240, .sl 202, .sl 243], .ct (.i .i64)] [(false, [.ct (.i .i64)])] (fun _ => (.s (.r [0, 0] none) .n))
noncomputable def fi147 : FI := mkFI Tryz.f147 1 [.ag [.s, .s, .sl 202, .sl 243], .ct (.i .i64)] [(false, [.ct (.i .i64)])] (fun _ => (.s (.r [0, 0] none) .n))
noncomputable def fi66 : FI := mkFI Tryz.f66 1 [.ag [.i .i64, .b, .s, .s, .sl 9, .sl 189, .sl 195, .sl 198, .sl 126, .b, .sl 202], .ct (.i .i64)] [(false, [.ct (.i .i64)])] (fun _ => (.s (.r [0, 0] none) .n))
noncomputable def fi148 : FI := mkFI Tryz.f148 6 [.ag [.i .i64, .s, .sl 240, .sl 202, .sl 243]] [(true, [.ct (.i .i64), .ct .s, .new 1214, .new 1143, .new 1216])] (fun _ => (.s (.r [0, 1] none) (.s (.r [2] none) (.s .n (.s .n (.s (.r [0, 0, 3, 0, 0] none) (.s (.r [0, 0, 4, 0, 0] none) (.s (.r [0, 0, 5, 0, 0] none) .n))))))))
noncomputable def fi149 : FI := mkFI Tryz.f149 5 [.ag [.s, .s, .sl 202, .sl 243]] [(true, [.ct .s, .ct .s, .new 1143, .new 1216])] (fun _ => (.s (.r [0, 1] none) (.s (.r [2] none) (.s .n (.s .n (.s (.r [0, 0, 3, 0, 0] none) (.s (.r [0, 0, 4, 0, 0] none) .n)))))))
noncomputable def fi70 : FI := mkFI Tryz.f70 9 [.ag [.i .i64, .b, .s, .s, .sl 9, .sl 189, .sl 195, .sl 198, .sl 126, .b, .sl 202]] [(true, [.ct (.i .i64), .ct .b, .ct .s, .ct .s, .new 9, .new 1032, .new 1139, .new 1154, .new 131, .ct .b, .new 1143])] (fun _ => (.s (.r [0, 1] none) (.s (.r [2] none) (.s .n (.s .n (.s .n (.s .n (.s (.r [0, 0, 3, 0, 0] none) (.s (.r [0, 0, 4, 0, 0] none) (.s (.r [0, 0, 5, 0, 0] none) (.s (.r [0, 0, 6, 0, 0] none) (.s (.r [0, 0, 7, 0, 0] none) (.s .n (.s (.r [0, 0, 8, 0, 0] none) .n))))))))))))))
noncomputable def fi126 : FI := mkFI Tryz.f126 16 [.ag [.i .i64, .s, .sl 137, .sl 9]] [(true, [.ct (.i .i64), .ct .s, .new 1137, .new 9])] (fun _ => (.s (.r [0, 1] none) (.s (.r [0, 0, 0, 0, 2, 0, 0, 3, 0, 4, 0] none) (.s (.s .n (.b (.b (.s .n (.s (.b (.r [0, 0, 0, 0, 0, 0, 0, 6, 9, 10, 0, 0] none) ⟨ou :: .one (.ptr 0 0) :: .one (.ptr 1 0) :: .one (.ptr 4 0) :: oi :: uu 28 [], .var 137 [.i .i64, .s, .sl 137, .sl 9] :: .var 137 [.i .i64, .s, .nil, .nil] :: .u :: .u :: .var 137 [.i .i64, .s, .own 1137 11, .own 9 12] :: vv 11 []⟩) .n)) ⟨ou :: .one (.ptr 0 0) :: .one (.ptr 1 0) :: .one (.ptr 4 0) :: oi :: uu 28 [], .var 137 [.i .i64, .s, .sl 137, .sl 9] :: .var 137 [.i .i64, .s, .nil, .nil] :: .u :: .u :: .var 137 [.i .i64, .s, .own 1137 13, .own 9 5] :: vv 11 []⟩) ⟨ou :: ou :: .one (.ptr 1 0) :: .one (.ptr 4 0) :: uu 29 [], .u :: .var 137 [.i .i64, .s, .nil, .nil] :: .u :: .u :: .var 137 [.i .i64, .s, .own 1137 14, .own 9 15] :: vv 11 []⟩)) .n))))
noncomputable def fi127 : FI := mkFI Tryz.f127 9 [.ct (.sl 184)] [(false, [.new 1184])] (fun _ => (.s .n (.s (.r [1, 0] none) (.s (.s .n (.b (.b (.s .n (.s (.b (.r [0, 0, 0, 0, 0, 0, 0, 0, 0, 0, 0, 3, 0, 5, 6, 0] none) ⟨ol 184 :: ou :: ou :: .one (.own 1184 7) :: oi :: uu 23 [], vv 9 []⟩) .n)) ⟨ol 184 :: ou :: ou :: .one (.own 1184 2) :: oi :: uu 23 [], vv 9 []⟩) ⟨uu 3 (.one (.own 1184 8) :: uu 24 []), vv 9 []⟩)) .n))))
noncomputable def fi132 : FI := mkFI Tryz.f132 16 [.ag [.i .i64, .s, .sl 137, .sl 9]] [(true, [.ct (.i .i64), .ct .s, .new 1137, .new 9])] (fun _ => (.s (.r [0, 1] none) (.s (.r [0, 0, 0, 0, 0, 0, 2, 0, 3, 0] none) (.s (.s .n (.b (.b (.s .n (.s .n (.s (.b (.s (.r [0, 0, 5, 0] none) (.r [0, 0, 0, 6, 9, 10, 0, 0] none)) ⟨ou :: ou :: .one (.ptr 1 0) :: .one (.ptr 3 0) :: uu 11 (ol 137 :: oi :: oi :: uu 12 []), .u :: .var 137 [.i .i64, .s, .nil, .nil] :: .u :: .var 137 [.i .i64, .s, .own 1137 11, .own 9 12] :: vv 12 []⟩) .n))) ⟨ou :: ou :: .one (.ptr 1 0) :: .one (.ptr 3 0) :: uu 11 (ol 137 :: oi :: oi :: uu 12 []), .u :: .var 137 [.i .i64, .s, .nil, .nil] :: .u :: .var 137 [.i .i64, .s, .own 1137 13, .own 9 4] :: vv 12 []⟩) ⟨ou :: ou :: .one (.ptr 1 0) :: .one (.ptr 3 0) :: uu 26 [], .u :: .var 137 [.i .i64, .s, .nil, .nil] :: .u :: .var 137 [.i .i64, .s, .own 1137 14, .own 9 15] :: vv 12 []⟩)) .n))))
noncomputable def fi133 : FI := mkFI Tryz.f133 8 [.ct (.sl 184)] [(false, [.new 1184])] (fun _ => (.s .n (.s .n (.s (.s .n (.b (.b (.s .n (.s .n (.s (.b (.s (.r [0, 0, 0, 0] none) (.r [0, 0, 0, 0, 0, 1, 0, 3, 4, 0] none)) ⟨uu 3 (.one (.own 1184 5) :: ou :: ou :: ol 184 :: oi :: oi :: uu 14 []), vv 8 []⟩) .n))) ⟨uu 3 (.one (.own 1184 6) :: ou :: ou :: ol 184 :: oi :: oi :: uu 14 []), vv 8 []⟩) ⟨uu 3 (.one (.own 1184 7) :: uu 19 []), vv 8 []⟩)) .n))))
noncomputable def fi11 : FI := mkFI Tryz.f11 2 [.ag [.s, .s, .sl 139, .s, .s, .sl 143], .ag [.s, .s, .sl 139, .s, .s, .sl 143]] [(false, [.ct .b])] (fun _ => (.s (.r [0, 1, 0] none) .n))
noncomputable def fi94 : FI := mkFI Tryz.f94 2 [.ag [.s, .s, .s, .s, .b, .i .i64, .s, .sl 137, .sl 9, .sl 143], .ag [.s, .s, .s, .s, .b, .i .i64, .s, .sl 137, .sl 9, .sl 143]] [(false, [.ct .b])] (fun _ => (.s (.r [0, 1, 0] none) .n))
noncomputable def fi108 : FI := mkFI Tryz.f108 2 [.ag [.s, .s, .sl 143], .ag [.s, .s, .sl 143]] [(false, [.ct .b])] (fun _ => (.s (.r [0, 1, 0] none) .n))
noncomputable def fi96 : FI := mkFI Tryz.f96 2 [.ag [.i .i64, .s], .ag [.i .i64, .s]] [(false, [.ct .b])] (fun _ => (.s (.r [0, 1, 0] none) .n))
noncomputable def fi95 : FI := mkFI Tryz.f95 2 [.ag [.s, .sl 184], .ag [.s, .sl 184]] [(false, [.ct .b])] (fun _ => (.s (.r [0, 1, 0] none) .n))
noncomputable def fi150 : FI := mkFI Tryz.f150 2 [.ag [.i .i64, .s, .sl 214, .sl 143, .sl 216], .ag [.i .i64, .s, .sl 214, .sl 143, .sl 216]] [(false, [.ct .b])] (fun _ => (.s (.r [0, 1, 0] none) .n))
noncomputable def fi151 : FI := mkFI Tryz.f151 2 [.ag [.s, .s, .sl 143, .sl 216], .ag [.s, .s, .sl 143, .sl 216]] [(false, [.ct .b])] (fun _ => (.s (.r [0, 1, 0] none) .n))
noncomputable def fi162 : FI := mkFI Tryz.f162 0 [.ct (.sl 240), .ct (.i .i64)] [(false, [.ct (.i .i64)])] (fun _ => (.s .n (.s .n (.s .n (.s (.s .n (.b (.b (.s .n (.s (.b .n ⟨ol 240 :: oi :: uu 3 (oi :: uu 21 []), []⟩) .n)) ⟨ol 240 :: oi :: uu 3 (oi :: uu 21 []), []⟩) ⟨ou :: oi :: uu 25 [], []⟩)) .n)))))
noncomputable def fi113 : FI := mkFI Tryz.f113 0 [.ct (.sl 202), .ct (.i .i64)] [(false, [.ct (.i .i64)])] (fun _ => (.s .n (.s .n (.s .n (.s (.s .n (.b (.b (.s .n (.s (.b .n ⟨ol 202 :: oi :: uu 3 (oi :: uu 21 []), []⟩) .n)) ⟨ol 202 :: oi :: uu 3 (oi :: uu 21 []), []⟩) ⟨ou :: oi :: uu 25 [], []⟩)) .n)))))
noncomputable def fi163 : FI := mkFI Tryz.f163 0 [.ct (.sl 243), .ct (.i .i64)] [(false, [.ct (.i .i64)])] (fun _ => (.s .n (.s .n (.s .n (.s (.s .n (.b (.b (.s .n (.s (.b .n ⟨ol 243 :: oi :: uu 3 (oi :: uu 21 []), []⟩) .n)) ⟨ol 243 :: oi :: uu 3 (oi :: uu 21 []), []⟩) ⟨ou :: oi :: uu 25 [], []⟩)) .n)))))
noncomputable def fi109 : FI := mkFI Tryz.f109 0 [.ct (.sl 9), .ct (.i .i64)] [(false, [.ct (.i .i64)])] (fun _ => (.s .n (.s .n (.s .n (.s (.s .n (.b (.b (.s .n (.s (.b .n ⟨ol 9 :: oi :: uu 3 (oi :: uu 22 []), []⟩) .n)) ⟨ol 9 :: oi :: uu 3 (oi :: uu 22 []), []⟩) ⟨ou :: oi :: uu 26 [], []⟩)) .n)))))
noncomputable def fi110 : FI := mkFI Tryz.f110 0 [.ct (.sl 189), .ct (.i .i64)] [(false, [.ct (.i .i64)])] (fun _ => (.s .n (.s .n (.s .n (.s (.s .n (.b (.b (.s .n (.s (.b .n ⟨ol 189 :: oi :: uu 3 (oi :: uu 21 []), []⟩) .n)) ⟨ol 189 :: oi :: uu 3 (oi :: uu 21 []), []⟩) ⟨ou :: oi :: uu 25 [], []⟩)) .n)))))
noncomputable def fi111 : FI := mkFI Tryz.f111 0 [.ct (.sl 195), .ct (.i .i64)] [(false, [.ct (.i .i64)])] (fun _ => (.s .n (.s .n (.s .n (.s (.s .n (.b (.b (.s .n (.s (.b .n ⟨ol 195 :: oi :: uu 3 (oi :: uu 21 []), []⟩) .n)) ⟨ol 195 :: oi :: uu 3 (oi :: uu 21 []), []⟩) ⟨ou :: oi :: uu 25 [], []⟩)) .n)))))
noncomputable def fi112 : FI := mkFI Tryz.f112 0 [.ct (.sl 198), .ct (.i .i64)] [(false, [.ct (.i .i64)])] (fun _ => (.s .n (.s .n (.s .n (.s (.s .n (.b (.b (.s .n (.s (.b .n ⟨ol 198 :: oi :: uu 3 (oi :: uu 21 []), []⟩) .n)) ⟨ol 198 :: oi :: uu 3 (oi :: uu 21 []), []⟩) ⟨ou :: oi :: uu 25 [], []⟩)) .n)))))
noncomputable def fi37 : FI := mkFI Tryz.f37 0 [.ct (.sl 126), .ct (.i .i64)] [(false, [.ct (.i .i64)])] (fun _ => (.s .n (.s .n (.s .n (.s (.s .n (.b (.b (.s .n (.s (.b .n ⟨ol 126 :: oi :: uu 3 (oi :: uu 21 []), []⟩) .n)) ⟨ol 126 :: oi :: uu 3 (oi :: uu 21 []), []⟩) ⟨ou :: oi :: uu 25 [], []⟩)) .n)))))
noncomputable def fi164 : FI := mkFI Tryz.f164 8 [.ct (.sl 240)] [(false, [.new 1214])] (fun _ => (.s .n (.s (.r [0, 0, 1, 0] none) (.s (.s .n (.b (.b (.s .n (.s (.b (.r [0, 0, 0, 0, 0, 0, 3, 0, 0] none) ⟨ol 240 :: ou :: ou :: .one (.own 1214 6) :: oi :: uu 18 [], vv 8 []⟩) .n)) ⟨ol 240 :: ou :: ou :: .one (.own 1214 2) :: oi :: uu 18 [], vv 8 []⟩) ⟨uu 3 (.one (.own 1214 7) :: uu 19 []), vv 8 []⟩)) .n))))
noncomputable def fi118 : FI := mkFI Tryz.f118 6 [.ct (.sl 202)] [(false, [.new 1143])] (fun _ => (.s .n (.s (.r [0, 0, 1, 0] none) (.s (.s .n (.b (.b (.s .n (.s (.b (.r [0, 0, 0, 0, 0, 0, 3, 0, 0] none) ⟨ol 202 :: ou :: ou :: .one (.own 1143 4) :: oi :: uu 18 [], vv 6 []⟩) .n)) ⟨ol 202 :: ou :: ou :: .one (.own 1143 2) :: oi :: uu 18 [], vv 6 []⟩) ⟨uu 3 (.one (.own 1143 5) :: uu 19 []), vv 6 []⟩)) .n))))
noncomputable def fi165 : FI := mkFI Tryz.f165 8 [.ct (.sl 243)] [(false, [.new 1216])] (fun _ => (.s .n (.s (.r [0, 0, 1, 0] none) (.s (.s .n (.b (.b (.s .n (.s (.b (.r [0, 0, 0, 0, 0, 0, 3, 0, 0] none) ⟨ol 243 :: ou :: ou :: .one (.own 1216 6) :: oi :: uu 18 [], vv 8 []⟩) .n)) ⟨ol 243 :: ou :: ou :: .one (.own 1216 2) :: oi :: uu 18 [], vv 8 []⟩) ⟨uu 3 (.one (.own 1216 7) :: uu 19 []), vv 8 []⟩)) .n))))
noncomputable def fi114 : FI := mkFI Tryz.f114 4 [.ct (.sl 9)] [(false, [.new 9])] (fun _ => (.s .n (.s (.r [0, 0, 0, 0] none) (.s (.s .n (.b (.b (.s .n (.s (.b .n ⟨ol 9 :: ou :: ou :: .one (.own 9 2) :: oi :: uu 17 [], vv 4 []⟩) .n)) ⟨ol 9 :: ou :: ou :: .one (.own 9 1) :: oi :: uu 17 [], vv 4 []⟩) ⟨uu 3 (.one (.own 9 3) :: uu 18 []), vv 4 []⟩)) .n))))
noncomputable def fi115 : FI := mkFI Tryz.f115 7 [.ct (.sl 189)] [(false, [.new 1032])] (fun _ => (.s .n (.s (.r [0, 0, 1, 0] none) (.s (.s .n (.b (.b (.s .n (.s (.b (.r [0, 0, 0, 0, 0, 0, 3, 0, 0] none) ⟨ol 189 :: ou :: ou :: .one (.own 1032 5) :: oi :: uu 18 [], vv 7 []⟩) .n)) ⟨ol 189 :: ou :: ou :: .one (.own 1032 2) :: oi :: uu 18 [], vv 7 []⟩) ⟨uu 3 (.one (.own 1032 6) :: uu 19 []), vv 7 []⟩)) .n))))
noncomputable def fi116 : FI := mkFI Tryz.f116 8 [.ct (.sl 195)] [(false, [.new 1139])] (fun _ => (.s .n (.s (.r [0, 0, 1, 0] none) (.s (.s .n (.b (.b (.s .n (.s (.b (.r [0, 0, 0, 0, 0, 0, 3, 0, 0] none) ⟨ol 195 :: ou :: ou :: .one (.own 1139 6) :: oi :: uu 18 [], vv 8 []⟩) .n)) ⟨ol 195 :: ou :: ou :: .one (.own 1139 2) :: oi :: uu 18 [], vv 8 []⟩) ⟨uu 3 (.one (.own 1139 7) :: uu 19 []), vv 8 []⟩)) .n))))
noncomputable def fi117 : FI := mkFI Tryz.f117 6 [.ct (.sl 198)] [(false, [.new 1154])] (fun _ => (.s .n (.s (.r [0, 0, 1, 0] none) (.s (.s .n (.b (.b (.s .n (.s (.b (.r [0, 0, 0, 0, 0, 0, 3, 0, 0] none) ⟨ol 198 :: ou :: ou :: .one (.own 1154 4) :: oi :: uu 18 [], vv 6 []⟩) .n)) ⟨ol 198 :: ou :: ou :: .one (.own 1154 2) :: oi :: uu 18 [], vv 6 []⟩) ⟨uu 3 (.one (.own 1154 5) :: uu 19 []), vv 6 []⟩)) .n))))
noncomputable def fi40 : FI := mkFI Tryz.f40 4 [.ct (.sl 126)] [(false, [.new 131])] (fun _ => (.s .n (.s (.r [0, 0, 0, 0] none) (.s (.s .n (.b (.b (.s .n (.s (.b .n ⟨ol 126 :: ou :: ou :: .one (.own 131 2) :: oi :: uu 18 [], vv 4 []⟩) .n)) ⟨ol 126 :: ou :: ou :: .one (.own 131 1) :: oi :: uu 18 [], vv 4 []⟩) ⟨uu 3 (.one (.own 131 3) :: uu 19 []), vv 4 []⟩)) .n))))
noncomputable def fi44 : FI := mkFI Tryz.f44 2 [.ag [.s, .s], .ag [.s, .s]] [(false, [.ct .b])] (fun _ => (.s (.r [0, 1, 0] none) .n))
noncomputable def fi134 : FI := mkFI Tryz.f134 2 [.ag [.i .i64, .s, .sl 137, .sl 9], .ag [.i .i64, .s, .sl 137, .sl 9]] [(false, [.ct .b])] (fun _ => (.s (.r [0, 1, 0] none) .n))
noncomputable def fi135 : FI := mkFI Tryz.f135 0 [.ct (.sl 184), .ct (.sl 184)] [(false, [.ct .b])] (fun _ => (.s .n (.s .n (.s (.s .n (.b (.b (.s .n (.s (.b .n ⟨ol 184 :: ol 184 :: uu 3 (oi :: uu 21 []), []⟩) .n)) ⟨ol 184 :: ol 184 :: uu 3 (oi :: uu 21 []), []⟩) ⟨uu 27 [], []⟩)) .n))))
noncomputable def fi166 : FI := mkFI Tryz.f166 0 [.ct (.sl 214), .ct (.sl 214)] [(false, [.ct .b])] (fun _ => (.s .n (.s .n (.s (.s .n (.b (.b (.s .n (.s (.b .n ⟨ol 214 :: ol 214 :: uu 3 (oi :: uu 21 []), []⟩) .n)) ⟨ol 214 :: ol 214 :: uu 3 (oi :: uu 21 []), []⟩) ⟨uu 27 [], []⟩)) .n))))
noncomputable def fi167 : FI := mkFI Tryz.f167 0 [.ct (.sl 216), .ct (.sl 216)] [(false, [.ct .b])] (fun _ => (.s .n (.s .n (.s (.s .n (.b (.b (.s .n (.s (.b .n ⟨ol 216 :: ol 216 :: uu 3 (oi :: uu 21 []), []⟩) .n)) ⟨ol 216 :: ol 216 :: uu 3 (oi :: uu 21 []), []⟩) ⟨uu 27 [], []⟩)) .n))))
noncomputable def fi172 : FI := mkFI Tryz.f172 1 [.ag [.s, .s, .s, .b, .i .i64, .s, .sl 193, .sl 9, .sl 202], .ct (.i .i64)] [(false, [.ct (.i .i64)])] (fun _ => (.s (.r [0, 0] none) .n))
noncomputable def fi141 : FI := mkFI Tryz.f141 1 [.ag [.s, .sl 235], .ct (.i .i64)] [(false, [.ct (.i .i64)])] (fun _ => (.s (.r [0, 0] none) .n))
noncomputable def fi173 : FI := mkFI Tryz.f173 1 [.ag [.i .i64, .s, .s, .s, .sl 235, .sl 202, .sl 243], .ct (.i .i64)] [(false, [.ct (.i .i64)])] (fun _ => (.s (.r [0, 0] none) .n))
noncomputable def fi138 : FI := mkFI Tryz.f138 1 [.ag [.s, .s, .sl 195, .s, .s, .sl 202], .ct (.i .i64)] [(false, [.ct (.i .i64)])] (fun _ => (.s (.r [0, 0] none) .n))
noncomputable def fi139 : FI := mkFI Tryz.f139 1 [.ag [.s, .s, .s, .s, .b, .i .i64, .s, .sl 193, .sl 9, .sl 202], .ct (.i .i64)] [(false, [.ct (.i .i64)])] (fun _ => (.s (.r [0, 0] none) .n))
noncomputable def fi140 : FI := mkFI Tryz.f140 1 [.ag [.s, .s, .sl 202], .ct (.i .i64)] [(false, [.ct (.i .i64)])] (fun _ => (.s (.r [0, 0] none) .n))
noncomputable def fi83 : FI := mkFI Tryz.f83 1 [.ag [.i .i64, .s], .ct (.i .i64)] [(false, [.ct (.i .i64)])] (fun _ => (.s (.r [0, 0] none) .n))
noncomputable def fi174 : FI := mkFI Tryz.f174 6 [.ag [.s, .s, .s, .b, .i .i64, .s, .sl 193, .sl 9, .sl 202]] [(true, [.ct .s, .ct .s, .ct .s, .ct .b, .ct (.i .i64), .ct .s, .new 1137, .new 9, .new 1143])] (fun _ => (.s (.r [0, 1] none) (.s (.r [2] none) (.s .n (.s .n (.s .n (.s (.r [0, 0, 3, 0, 0] none) (.s (.r [0, 0, 5, 0, 0] none) .n))))))))
noncomputable def fi145 : FI := mkFI Tryz.f145 4 [.ag [.s, .sl 235]] [(true, [.ct .s, .new 1184])] (fun _ => (.s (.r [0, 1] none) (.s (.r [2] none) (.s .n (.s (.r [0, 0, 3, 0, 0] none) .n)))))
noncomputable def fi175 : FI := mkFI Tryz.f175 6 [.ag [.i .i64, .s, .s, .s, .sl 235, .sl 202, .sl 243]] [(true, [.ct (.i .i64), .ct .s, .ct .s, .ct .s, .new 1184, .new 1143, .new 1216])] (fun _ => (.s (.r [0, 1] none) (.s (.r [2] none) (.s .n (.s .n (.s .n (.s .n (.s (.r [0, 0, 3, 0, 0] none) (.s (.r [0, 0, 4, 0, 0] none) (.s (.r [0, 0, 5, 0, 0] none) .n))))))))))
noncomputable def fi142 : FI := mkFI Tryz.f142 5 [.ag [.s, .s, .sl 195, .s, .s, .sl 202]] [(true, [.ct .s, .ct .s, .new 1139, .ct .s, .ct .s, .new 1143])] (fun _ => (.s (.r [0, 1] none) (.s (.r [2] none) (.s .n (.s .n (.s (.r [0, 0, 3, 0, 0] none) (.s .n (.s (.r [0, 0, 4, 0, 0] none) .n))))))))
noncomputable def fi143 : FI := mkFI Tryz.f143 6 [.ag [.s, .s, .s, .s, .b, .i .i64, .s, .sl 193, .sl 9, .sl 202]] [(true, [.ct .s, .ct .s, .ct .s, .ct .s, .ct .b, .ct (.i .i64), .ct .s, .new 1137, .new 9, .new 1143])] (fun _ => (.s (.r [0, 1] none) (.s (.r [2] none) (.s .n (.s .n (.s .n (.s .n (.s (.r [0, 0, 3, 0, 0] none) (.s (.r [0, 0, 5, 0, 0] none) .n)))))))))
noncomputable def fi144 : FI := mkFI Tryz.f144 4 [.ag [.s, .s, .sl 202]] [(true, [.ct .s, .ct .s, .new 1143])] (fun _ => (.s (.r [0, 1] none) (.s (.r [2] none) (.s .n (.s .n (.s (.r [0, 0, 3, 0, 0] none) .n))))))
noncomputable def fi88 : FI := mkFI Tryz.f88 3 [.ag [.i .i64, .s]] [(true, [.ct (.i .i64), .ct .s])] (fun _ => (.s (.r [0, 1] none) (.s (.r [2] none) .n)))
noncomputable def fi154 : FI := mkFI Tryz.f154 0 [.ct (.sl 137), .ct (.sl 137)] [(false, [.ct .b])] (fun _ => (.s .n (.s .n (.s (.s .n (.b (.b (.s .n (.s (.b .n ⟨ol 137 :: ol 137 :: uu 3 (oi :: uu 21 []), []⟩) .n)) ⟨ol 137 :: ol 137 :: uu 3 (oi :: uu 21 []), []⟩) ⟨uu 27 [], []⟩)) .n))))
noncomputable def fi155 : FI := mkFI Tryz.f155 2 [.ag [.s, .i .i64, .s, .sl 137, .sl 9], .ag [.s, .i .i64, .s, .sl 137, .sl 9]] [(false, [.ct .b])] (fun _ => (.s (.r [0, 1, 0] none) .n))
noncomputable def fi176 : FI := mkFI Tryz.f176 2 [.ag [.s, .s, .s, .b, .i .i64, .s, .sl 137, .sl 9, .sl 143], .ag [.s, .s, .s, .b, .i .i64, .s, .sl 137, .sl 9, .sl 143]] [(false, [.ct .b])] (fun _ => (.s (.r [0, 1, 0] none) .n))
noncomputable def fi177 : FI := mkFI Tryz.f177 2 [.ag [.i .i64, .s, .s, .s, .sl 184, .sl 143, .sl 216], .ag [.i .i64, .s, .s, .s, .sl 184, .sl 143, .sl 216]] [(false, [.ct .b])] (fun _ => (.s (.r [0, 1, 0] none) .n))
noncomputable def fi156 : FI := mkFI Tryz.f156 1 [.ag [.s, .s], .ct (.i .i64)] [(false, [.ct (.i .i64)])] (fun _ => (.s (.r [0, 0] none) .n))
noncomputable def fi157 : FI := mkFI Tryz.f157 1 [.ag [.i .i64, .s, .sl 193, .sl 9], .ct (.i .i64)] [(false, [.ct (.i .i64)])] (fun _ => (.s (.r [0, 0] none) .n))
noncomputable def fi158 : FI := mkFI Tryz.f158 0 [.ct (.sl 235), .ct (.i .i64)] [(false, [.ct (.i .i64)])] (fun _ => (.s .n (.s .n (.s .n (.s (.s .n (.b (.b (.s .n (.s (.b .n ⟨ol 235 :: oi :: uu 3 (oi :: uu 21 []), []⟩) .n)) ⟨ol 235 :: oi :: uu 3 (oi :: uu 21 []), []⟩) ⟨ou :: oi :: uu 25 [], []⟩)) .n)))))
noncomputable def fi159 : FI := mkFI Tryz.f159 3 [.ag [.s, .s]] [(true, [.ct .s, .ct .s])] (fun _ => (.s (.r [0, 1] none) (.s (.r [2] none) .n)))
noncomputable def fi160 : FI := mkFI Tryz.f160 5 [.ag [.i .i64, .s, .sl 193, .sl 9]] [(true, [.ct (.i .i64), .ct .s, .new 1137, .new 9])] (fun _ => (.s (.r [0, 1] none) (.s (.r [2] none) (.s .n (.s .n (.s (.r [0, 0, 3, 0, 0] none) (.s (.r [0, 0, 4, 0, 0] none) .n)))))))
noncomputable def fi161 : FI := mkFI Tryz.f161 7 [.ct (.sl 235)] [(false, [.new 1184])] (fun _ => (.s .n (.s (.r [0, 0, 1, 0] none) (.s (.s .n (.b (.b (.s .n (.s (.b (.r [0, 0, 0, 0, 0, 0, 3, 0, 0] none) ⟨ol 235 :: ou :: ou :: .one (.own 1184 5) :: oi :: uu 18 [], vv 7 []⟩) .n)) ⟨ol 235 :: ou :: ou :: .one (.own 1184 2) :: oi :: uu 18 [], vv 7 []⟩) ⟨uu 3 (.one (.own 1184 6) :: uu 19 []), vv 7 []⟩)) .n))))
noncomputable def fi168 : FI := mkFI Tryz.f168 0 [.ct (.sl 193), .ct (.i .i64)] [(false, [.ct (.i .i64)])] (fun _ => (.s .n (.s .n (.s .n (.s (.s .n (.b (.b (.s .n (.s (.b .n ⟨ol 193 :: oi :: uu 3 (oi :: uu 21 []), []⟩) .n)) ⟨ol 193 :: oi :: uu 3 (oi :: uu 21 []), []⟩) ⟨ou :: oi :: uu 25 [], []⟩)) .n)))))
noncomputable def fi169 : FI := mkFI Tryz.f169 1 [.ag [.s, .i .i64, .s, .sl 193, .sl 9], .ct (.i .i64)] [(false, [.ct (.i .i64)])] (fun _ => (.s (.r [0, 0] none) .n))
noncomputable def fi170 : FI := mkFI Tryz.f170 7 [.ct (.sl 193)] [(false, [.new 1137])] (fun _ => (.s .n (.s (.r [0, 0, 1, 0] none) (.s (.s .n (.b (.b (.s .n (.s (.b (.r [0, 0, 0, 0, 0, 0, 3, 0, 0] none) ⟨ol 193 :: ou :: ou :: .one (.own 1137 5) :: oi :: uu 18 [], vv 7 []⟩) .n)) ⟨ol 193 :: ou :: ou :: .one (.own 1137 2) :: oi :: uu 18 [], vv 7 []⟩) ⟨uu 3 (.one (.own 1137 6) :: uu 19 []), vv 7 []⟩)) .n))))
noncomputable def fi171 : FI := mkFI Tryz.f171 5 [.ag [.s, .i .i64, .s, .sl 193, .sl 9]] [(true, [.ct .s, .ct (.i .i64), .ct .s, .new 1137, .new 9])] (fun _ => (.s (.r [0, 1] none) (.s (.r [2] none) (.s .n (.s (.r [0, 0, 3, 0, 0] none) .n)))))
noncomputable def fi27 : FI := { mkFI Tryz.f27 0 [] [] (fun _ => .n) with mark := some (mkI mT mTab 27 49) }
noncomputable def fi28 : FI := { mkFI Tryz.f28 0 [] [] (fun _ => .n) with mark := some (mkI mT mTab 28 102) }
noncomputable def fi47 : FI := { mkFI Tryz.f47 0 [] [] (fun _ => .n) with mark := some (mkI mT mTab 47 131) }
noncomputable def fi48 : FI := { mkFI Tryz.f48 0 [] [] (fun _ => .n) with mark := some (mkI mT mTab 48 139) }
noncomputable def fi49 : FI := { mkFI Tryz.f49 0 [] [] (fun _ => .n) with mark := some (mkI mT mTab 49 143) }
noncomputable def fi59 : FI := { mkFI Tryz.f59 0 [] [] (fun _ => .n) with mark := some (mkI mT mTab 59 9) }
noncomputable def fi60 : FI := { mkFI Tryz.f60 0 [] [] (fun _ => .n) with mark := some (mkI mT mTab 60 32) }
noncomputable def fi61 : FI := { mkFI Tryz.f61 0 [] [] (fun _ => .n) with mark := some (mkI mT mTab 61 154) }
noncomputable def fi82 : FI := { mkFI Tryz.f82 0 [] [] (fun _ => .n) with mark := some (mkI mT mTab 82 120) }
noncomputable def fi97 : FI := { mkFI Tryz.f97 0 [] [] (fun _ => .n) with mark := some (mkI mT mTab 97 137) }
noncomputable def fi98 : FI := { mkFI Tryz.f98 0 [] [] (fun _ => .n) with mark := some (mkI mT mTab 98 184) }
noncomputable def fi123 : FI := { mkFI Tryz.f123 0 [] [] (fun _ => .n) with mark := some (mkI mT mTab 123 214) }
noncomputable def fi124 : FI := { mkFI Tryz.f124 0 [] [] (fun _ => .n) with mark := some (mkI mT mTab 124 216) }
noncomputable def fi36 : FI := { mkFI Tryz.f36 0 [] [] (fun _ => .n) with mark := some (mkAI mT mTab 1 [((0, 120), 82)]) }
noncomputable def fnL : List (Nat × FI) := [(6, fi6), (31, fi31), (33, fi33), (32, fi32), (34, fi34), (25, fi25), (26, fi26), (35, fi35), (29, fi29), (30, fi30), (79, fi79), (80, fi80), (53, fi53), (55, fi55), (18, fi18), (77, fi77), (81, fi81), (78, fi78), (62, fi62), (63, fi63), (50, fi50), (64, fi64), (65, fi65), (51, fi51), (120, fi120), (121, fi121), (39, fi39), (86, fi86), (102, fi102), (87, fi87), (105, fi105), (42, fi42), (92, fi92), (106, fi106), (107, fi107), (93, fi93), (56, fi56), (57, fi57), (43, fi43), (58, fi58), (46, fi46), (45, fi45), (122, fi122), (99, fi99), (100, fi100), (146, fi146), (147, fi147), (66, fi66), (148, fi148), (149, fi149), (70, fi70), (126, fi126), (127, fi127), (132, fi132), (133, fi133), (11, fi11), (94, fi94), (108, fi108), (96, fi96), (95, fi95), (150, fi150), (151, fi151), (162, fi162), (113, fi113), (163, fi163), (109, fi109), (110, fi110), (111, fi111), (112, fi112), (37, fi37), (164, fi164), (118, fi118), (165, fi165), (114, fi114), (115, fi115), (116, fi116), (117, fi117), (40, fi40), (44, fi44), (134, fi134), (135, fi135), (166, fi166), (167, fi167), (172, fi172), (141, fi141), (173, fi173), (138, fi138), (139, fi139), (140, fi140), (83, fi83), (174, fi174), (145, fi145), (175, fi175), (142, fi142), (143, fi143), (144, fi144), (88, fi88), (154, fi154), (155, fi155), (176, fi176), (177, fi177), (156, fi156), (157, fi157), (158, fi158), (159, fi159), (160, fi160), (161, fi161), (168, fi168), (169, fi169), (170, fi170), (171, fi171), (27, fi27), (28, fi28), (47, fi47), (48, fi48), (49, fi49), (59, fi59), (60, fi60), (61, fi61), (82, fi82), (97, fi97), (98, fi98), (123, fi123), (124, fi124), (36, fi36)]
noncomputable def cfg : Cfg := ⟨fun t => look t tyL, fun f => look f fnL⟩
theorem fns : ∀ x ∈ fnL, FnOk Tryz.prog Glob.none cfg.ty x.1 x.2 :=
  all_cons (mkFI_ok Tryz.func6 (by kernel_rfl)) <|
  all_cons (mkFI_ok Tryz.func31 (by kernel_rfl)) <|
  all_cons (mkFI_ok Tryz.func33 (by kernel_rfl)) <|
  all_cons (mkFI_ok Tryz.func32 (by kernel_rfl)) <|
  all_cons (mkFI_ok Tryz.func34 (by kernel_rfl)) <|
  all_cons (mkFI_ok Tryz.func25 (by kernel_rfl)) <|
  all_cons (mkFI_ok Tryz.func26 (by kernel_rfl)) <|
  all_cons (mkFI_ok Tryz.func35 (by kernel_rfl)) <|
  all_cons (mkFI_ok Tryz.func29 (by kernel_rfl)) <|
  all_cons (mkFI_ok Tryz.func30 (by kernel_rfl)) <|
  all_cons (mkFI_ok Tryz.func79 (by kernel_rfl)) <|
  all_cons (mkFI_ok Tryz.func80 (by kernel_rfl)) <|
  all_cons (mkFI_ok Tryz.func53 (by kernel_rfl)) <|
  all_cons (mkFI_ok Tryz.func55 (by kernel_rfl)) <|
  all_cons (mkFI_ok Tryz.func18 (by kernel_rfl)) <|
  all_cons (mkFI_ok Tryz.func77 (by kernel_rfl)) <|
  all_cons (mkFI_ok Tryz.func81 (by kernel_rfl)) <|
  all_cons (mkFI_ok Tryz.func78 (by kernel_rfl)) <|
  all_cons (mkFI_ok Tryz.func62 (by kernel_rfl)) <|
  all_cons (mkFI_ok Tryz.func63 (by kernel_rfl)) <|
  all_cons (mkFI_ok Tryz.func50 (by kernel_rfl)) <|
  all_cons (mkFI_ok Tryz.func64 (by kernel_rfl)) <|
  all_cons (mkFI_ok Tryz.func65 (by kernel_rfl)) <|
  all_cons (mkFI_ok Tryz.func51 (by kernel_rfl)) <|
  all_cons (mkFI_ok Tryz.func120 (by kernel_rfl)) <|
  all_cons (mkFI_ok Tryz.func121 (by kernel_rfl)) <|
  all_cons (mkFI_ok Tryz.func39 (by kernel_rfl)) <|
  all_cons (mkFI_ok Tryz.func86 (by kernel_rfl)) <|
  all_cons (mkFI_ok Tryz.func102 (by kernel_rfl)) <|
  all_cons (mkFI_ok Tryz.func87 (by kernel_rfl)) <|
  all_cons (prim_clone (e := 9) (ac := ac105) (ar := ar105) (tyB_ok tys).1 (by kernel_rfl) Tryz.func105 (by kernel_rfl) (by kernel_rfl) rfl rfl ⟨_, _, _, _, _, _, _, rfl, ⟨rfl, rfl, rfl⟩, ⟨rfl, rfl, rfl⟩, ⟨rfl, rfl, rfl⟩, Tryz.underlying45⟩ rfl rfl (by decide +kernel) cl105) <|
  all_cons (mkFI_ok Tryz.func42 (by kernel_rfl)) <|
  all_cons (mkFI_ok Tryz.func92 (by kernel_rfl)) <|
  all_cons (mkFI_ok Tryz.func106 (by kernel_rfl)) <|
  all_cons (prim_clone (e := 131) (ac := ac107) (ar := ar107) (tyB_ok tys).1 (by kernel_rfl) Tryz.func107 (by kernel_rfl) (by kernel_rfl) rfl rfl ⟨_, _, _, _, _, _, _, rfl, ⟨rfl, rfl, rfl⟩, ⟨rfl, rfl, rfl⟩, ⟨rfl, rfl, rfl⟩, Tryz.underlying36⟩ rfl rfl (by decide +kernel) cl107) <|
  all_cons (mkFI_ok Tryz.func93 (by kernel_rfl)) <|
  all_cons (mkFI_ok Tryz.func56 (by kernel_rfl)) <|
  all_cons (mkFI_ok Tryz.func57 (by kernel_rfl)) <|
  all_cons (mkFI_ok Tryz.func43 (by kernel_rfl)) <|
  all_cons (mkFI_ok Tryz.func58 (by kernel_rfl)) <|
  all_cons (mkFI_ok Tryz.func46 (by kernel_rfl)) <|
  all_cons (mkFI_ok Tryz.func45 (by kernel_rfl)) <|
  all_cons (mkFI_ok Tryz.func122 (by kernel_rfl)) <|
  all_cons (mkFI_ok Tryz.func99 (by kernel_rfl)) <|
  all_cons (mkFI_ok Tryz.func100 (by kernel_rfl)) <|
  all_cons (mkFI_ok Tryz.func146 (by kernel_rfl)) <|
  all_cons (mkFI_ok Tryz.func147 (by kernel_rfl)) <|
  all_cons (mkFI_ok Tryz.func66 (by kernel_rfl)) <|
  all_cons (mkFI_ok Tryz.func148 (by kernel_rfl)) <|
  all_cons (mkFI_ok Tryz.func149 (by kernel_rfl)) <|
  all_cons (mkFI_ok Tryz.func70 (by kernel_rfl)) <|
  all_cons (mkFI_ok Tryz.func126 (by kernel_rfl)) <|
  all_cons (mkFI_ok Tryz.func127 (by kernel_rfl)) <|
  all_cons (mkFI_ok Tryz.func132 (by kernel_rfl)) <|
  all_cons (mkFI_ok Tryz.func133 (by kernel_rfl)) <|
  all_cons (mkFI_ok Tryz.func11 (by kernel_rfl)) <|
  all_cons (mkFI_ok Tryz.func94 (by kernel_rfl)) <|
  all_cons (mkFI_ok Tryz.func108 (by kernel_rfl)) <|
  all_cons (mkFI_ok Tryz.func96 (by kernel_rfl)) <|
  all_cons (mkFI_ok Tryz.func95 (by kernel_rfl)) <|
  all_cons (mkFI_ok Tryz.func150 (by kernel_rfl)) <|
  all_cons (mkFI_ok Tryz.func151 (by kernel_rfl)) <|
  all_cons (mkFI_ok Tryz.func162 (by kernel_rfl)) <|
  all_cons (mkFI_ok Tryz.func113 (by kernel_rfl)) <|
  all_cons (mkFI_ok Tryz.func163 (by kernel_rfl)) <|
  all_cons (mkFI_ok Tryz.func109 (by kernel_rfl)) <|
  all_cons (mkFI_ok Tryz.func110 (by kernel_rfl)) <|
  all_cons (mkFI_ok Tryz.func111 (by kernel_rfl)) <|
  all_cons (mkFI_ok Tryz.func112 (by kernel_rfl)) <|
  all_cons (mkFI_ok Tryz.func37 (by kernel_rfl)) <|
  all_cons (mkFI_ok Tryz.func164 (by kernel_rfl)) <|
  all_cons (mkFI_ok Tryz.func118 (by kernel_rfl)) <|
  all_cons (mkFI_ok Tryz.func165 (by kernel_rfl)) <|
  all_cons (mkFI_ok Tryz.func114 (by kernel_rfl)) <|
  all_cons (mkFI_ok Tryz.func115 (by kernel_rfl)) <|
  all_cons (mkFI_ok Tryz.func116 (by kernel_rfl)) <|
  all_cons (mkFI_ok Tryz.func117 (by kernel_rfl)) <|
  all_cons (mkFI_ok Tryz.func40 (by kernel_rfl)) <|
  all_cons (mkFI_ok Tryz.func44 (by kernel_rfl)) <|
  all_cons (mkFI_ok Tryz.func134 (by kernel_rfl)) <|
  all_cons (mkFI_ok Tryz.func135 (by kernel_rfl)) <|
  all_cons (mkFI_ok Tryz.func166 (by kernel_rfl)) <|
  all_cons (mkFI_ok Tryz.func167 (by kernel_rfl)) <|
  all_cons (mkFI_ok Tryz.func172 (by kernel_rfl)) <|
  all_cons (mkFI_ok Tryz.func141 (by kernel_rfl)) <|
  all_cons (mkFI_ok Tryz.func173 (by kernel_rfl)) <|
  all_cons (mkFI_ok Tryz.func138 (by kernel_rfl)) <|
  all_cons (mkFI_ok Tryz.func139 (by kernel_rfl)) <|
  all_cons (mkFI_ok Tryz.func140 (by kernel_rfl)) <|
  all_cons (mkFI_ok Tryz.func83 (by kernel_rfl)) <|
  all_cons (mkFI_ok Tryz.func174 (by kernel_rfl)) <|
  all_cons (mkFI_ok Tryz.func145 (by kernel_rfl)) <|
  all_cons (mkFI_ok Tryz.func175 (by kernel_rfl)) <|
  all_cons (mkFI_ok Tryz.func142 (by kernel_rfl)) <|
  all_cons (mkFI_ok Tryz.func143 (by kernel_rfl)) <|
  all_cons (mkFI_ok Tryz.func144 (by kernel_rfl)) <|
  all_cons (mkFI_ok Tryz.func88 (by kernel_rfl)) <|
  all_cons (mkFI_ok Tryz.func154 (by kernel_rfl)) <|
  all_cons (mkFI_ok Tryz.func155 (by kernel_rfl)) <|
  all_cons (mkFI_ok Tryz.func176 (by kernel_rfl)) <|
  all_cons (mkFI_ok Tryz.func177 (by kernel_rfl)) <|
  all_cons (mkFI_ok Tryz.func156 (by kernel_rfl)) <|
  all_cons (mkFI_ok Tryz.func157 (by kernel_rfl)) <|
  all_cons (mkFI_ok Tryz.func158 (by kernel_rfl)) <|
  all_cons (mkFI_ok Tryz.func159 (by kernel_rfl)) <|
  all_cons (mkFI_ok Tryz.func160 (by kernel_rfl)) <|
  all_cons (mkFI_ok Tryz.func161 (by kernel_rfl)) <|
  all_cons (mkFI_ok Tryz.func168 (by kernel_rfl)) <|
  all_cons (mkFI_ok Tryz.func169 (by kernel_rfl)) <|
  all_cons (mkFI_ok Tryz.func170 (by kernel_rfl)) <|
  all_cons (mkFI_ok Tryz.func171 (by kernel_rfl)) <|
  all_cons (mark_fn (mkFI_ok Tryz.func27 (by kernel_rfl)) rfl (mkI_ok mtabok (f := 27) (e := 49) (by kernel_rfl))) <|
  all_cons (mark_fn (mkFI_ok Tryz.func28 (by kernel_rfl)) rfl (mkI_ok mtabok (f := 28) (e := 102) (by kernel_rfl))) <|
  all_cons (mark_fn (mkFI_ok Tryz.func47 (by kernel_rfl)) rfl (mkI_ok mtabok (f := 47) (e := 131) (by kernel_rfl))) <|
  all_cons (mark_fn (mkFI_ok Tryz.func48 (by kernel_rfl)) rfl (mkI_ok mtabok (f := 48) (e := 139) (by kernel_rfl))) <|
  all_cons (mark_fn (mkFI_ok Tryz.func49 (by kernel_rfl)) rfl (mkI_ok mtabok (f := 49) (e := 143) (by kernel_rfl))) <|
  all_cons (mark_fn (mkFI_ok Tryz.func59 (by kernel_rfl)) rfl (mkI_ok mtabok (f := 59) (e := 9) (by kernel_rfl))) <|
  all_cons (mark_fn (mkFI_ok Tryz.func60 (by kernel_rfl)) rfl (mkI_ok mtabok (f := 60) (e := 32) (by kernel_rfl))) <|
  all_cons (mark_fn (mkFI_ok Tryz.func61 (by kernel_rfl)) rfl (mkI_ok mtabok (f := 61) (e := 154) (by kernel_rfl))) <|
  all_cons (mark_fn (mkFI_ok Tryz.func82 (by kernel_rfl)) rfl (mkI_ok mtabok (f := 82) (e := 120) (by kernel_rfl))) <|
  all_cons (mark_fn (mkFI_ok Tryz.func97 (by kernel_rfl)) rfl (mkI_ok mtabok (f := 97) (e := 137) (by kernel_rfl))) <|
  all_cons (mark_fn (mkFI_ok Tryz.func98 (by kernel_rfl)) rfl (mkI_ok mtabok (f := 98) (e := 184) (by kernel_rfl))) <|
  all_cons (mark_fn (mkFI_ok Tryz.func123 (by kernel_rfl)) rfl (mkI_ok mtabok (f := 123) (e := 214) (by kernel_rfl))) <|
  all_cons (mark_fn (mkFI_ok Tryz.func124 (by kernel_rfl)) rfl (mkI_ok mtabok (f := 124) (e := 216) (by kernel_rfl))) <|
  all_cons (mark_fn (mkFI_ok Tryz.func36 (by kernel_rfl)) rfl (mkAI_ok mtabok Tryz.func36 (by kernel_rfl))) <| all_nil
noncomputable def r_laws_FnExactDefsIn (a : List DC) : Out := Run cfg 6 ⟨.agg [.sl 172] :: [], []⟩ a
noncomputable def r_laws_szDoc (a : List DC) : Out := Run cfg 31 ⟨.agg [.sl 172] :: oi :: [], []⟩ a
noncomputable def r_laws_toDoc (a : List DC) : Out := Run cfg 33 ⟨.agg [.sl 172] :: [], []⟩ a
noncomputable def r_spec_DefsIn (a : List DC) : Out := Run cfg 32 ⟨.agg [.sl 120] :: [], []⟩ a
noncomputable def r_impl_DefsIn (a : List DC) : Out := Run cfg 34 ⟨.agg [.sl 120] :: [], []⟩ a
noncomputable def r_laws_eqDefS (a : List DC) : Out := Run cfg 25 ⟨ol 49 :: ol 49 :: [], []⟩ a
noncomputable def r_laws_eqProblemS (a : List DC) : Out := Run cfg 26 ⟨ol 102 :: ol 102 :: [], []⟩ a
noncomputable def r_laws_eqDoc (a : List DC) : Out := Run cfg 35 ⟨.agg [.sl 120] :: .agg [.sl 120] :: [], []⟩ a
noncomputable def r_laws_heldDefS (a : List DC) : Out := Run cfg 29 ⟨ol 49 :: oi :: [], []⟩ a
noncomputable def r_laws_heldProblemS (a : List DC) : Out := Run cfg 30 ⟨ol 102 :: oi :: [], []⟩ a
noncomputable def r_laws_szItemS (a : List DC) : Out := Run cfg 79 ⟨ol 172 :: oi :: [], []⟩ a
noncomputable def r_laws_toItemS (a : List DC) : Out := Run cfg 80 ⟨ol 172 :: [], []⟩ a
noncomputable def r_spec_l13Copy (a : List DC) : Out := Run cfg 53 ⟨.agg [.i .i64, .b, .s, .s, .sl 9, .sl 32, .sl 139, .sl 154, .sl 131, .b, .sl 143] :: [], []⟩ a
noncomputable def r_impl_cloneDef (a : List DC) : Out := Run cfg 55 ⟨.agg [.i .i64, .b, .s, .s, .sl 9, .sl 32, .sl 139, .sl 154, .sl 131, .b, .sl 143] :: [], []⟩ a
noncomputable def r_laws_eqDef (a : List DC) : Out := Run cfg 18 ⟨.agg [.i .i64, .b, .s, .s, .sl 9, .sl 32, .sl 139, .sl 154, .sl 131, .b, .sl 143] :: .agg [.i .i64, .b, .s, .s, .sl 9, .sl 32, .sl 139, .sl 154, .sl 131, .b, .sl 143] :: [], []⟩ a
noncomputable def r_laws_eqProblem (a : List DC) : Out := Run cfg 77 ⟨.agg [.i .i64, .s, .s] :: .agg [.i .i64, .s, .s] :: [], []⟩ a
noncomputable def r_laws_eqItemS (a : List DC) : Out := Run cfg 81 ⟨ol 120 :: ol 120 :: [], []⟩ a
noncomputable def r_laws_markText (a : List DC) : Out := Run cfg 78 ⟨oi :: [], []⟩ a
noncomputable def r_laws_heldStringS (a : List DC) : Out := Run cfg 62 ⟨ol 9 :: oi :: [], []⟩ a
noncomputable def r_laws_heldFieldDefS (a : List DC) : Out := Run cfg 63 ⟨ol 32 :: oi :: [], []⟩ a
noncomputable def r_laws_heldInDefS (a : List DC) : Out := Run cfg 50 ⟨ol 139 :: oi :: [], []⟩ a
noncomputable def r_laws_heldEnumDefS (a : List DC) : Out := Run cfg 64 ⟨ol 154 :: oi :: [], []⟩ a
noncomputable def r_laws_heldRootS (a : List DC) : Out := Run cfg 65 ⟨ol 131 :: oi :: [], []⟩ a
noncomputable def r_laws_heldDirS (a : List DC) : Out := Run cfg 51 ⟨ol 143 :: oi :: [], []⟩ a
noncomputable def r_laws_szItem (a : List DC) : Out := Run cfg 120 ⟨.agg [.i .i64, .i .i64, .s, .sl 240, .sl 202, .sl 243, .s, .s, .sl 202, .sl 243, .i .i64, .b, .s, .s, .sl 9, .sl 189, .sl 195, .sl 198, .sl 126, .b, .sl 202] :: oi :: [], []⟩ a
noncomputable def r_laws_toItem (a : List DC) : Out := Run cfg 121 ⟨.agg [.i .i64, .i .i64, .s, .sl 240, .sl 202, .sl 243, .s, .s, .sl 202, .sl 243, .i .i64, .b, .s, .s, .sl 9, .sl 189, .sl 195, .sl 198, .sl 126, .b, .sl 202] :: [], []⟩ a
noncomputable def r_spec_l13CopyFields (a : List DC) : Out := Run cfg 39 ⟨ol 32 :: [], []⟩ a
noncomputable def r_spec_l13CopyIns (a : List DC) : Out := Run cfg 86 ⟨ol 139 :: [], []⟩ a
noncomputable def r_spec_l13CopyValues (a : List DC) : Out := Run cfg 102 ⟨ol 154 :: [], []⟩ a
noncomputable def r_spec_l10Dirs (a : List DC) : Out := Run cfg 87 ⟨ol 143 :: [], []⟩ a
noncomputable def r_slices_Clone_string (a : List DC) : Out := Run cfg 105 h_slices_Clone_string a
noncomputable def r_impl_cloneFields (a : List DC) : Out := Run cfg 42 ⟨ol 32 :: [], []⟩ a
noncomputable def r_impl_cloneIns (a : List DC) : Out := Run cfg 92 ⟨ol 139 :: [], []⟩ a
noncomputable def r_impl_cloneEnums (a : List DC) : Out := Run cfg 106 ⟨ol 154 :: [], []⟩ a
noncomputable def r_slices_Clone_impl_Root (a : List DC) : Out := Run cfg 107 h_slices_Clone_impl_Root a
noncomputable def r_impl_cloneDirs (a : List DC) : Out := Run cfg 93 ⟨ol 143 :: [], []⟩ a
noncomputable def r_laws_eqStringS (a : List DC) : Out := Run cfg 56 ⟨ol 9 :: ol 9 :: [], []⟩ a
noncomputable def r_laws_eqFieldDefS (a : List DC) : Out := Run cfg 57 ⟨ol 32 :: ol 32 :: [], []⟩ a
noncomputable def r_laws_eqInDefS (a : List DC) : Out := Run cfg 43 ⟨ol 139 :: ol 139 :: [], []⟩ a
noncomputable def r_laws_eqEnumDefS (a : List DC) : Out := Run cfg 58 ⟨ol 154 :: ol 154 :: [], []⟩ a
noncomputable def r_laws_eqRootS (a : List DC) : Out := Run cfg 46 ⟨ol 131 :: ol 131 :: [], []⟩ a
noncomputable def r_laws_eqDirS (a : List DC) : Out := Run cfg 45 ⟨ol 143 :: ol 143 :: [], []⟩ a
noncomputable def r_laws_eqItem (a : List DC) : Out := Run cfg 122 ⟨.agg [.i .i64, .i .i64, .s, .sl 214, .sl 143, .sl 216, .s, .s, .sl 143, .sl 216, .i .i64, .b, .s, .s, .sl 9, .sl 32, .sl 139, .sl 154, .sl 131, .b, .sl 143] :: .agg [.i .i64, .i .i64, .s, .sl 214, .sl 143, .sl 216, .s, .s, .sl 143, .sl 216, .i .i64, .b, .s, .s, .sl 9, .sl 32, .sl 139, .sl 154, .sl 131, .b, .sl 143] :: [], []⟩ a
noncomputable def r_laws_heldValueS (a : List DC) : Out := Run cfg 99 ⟨ol 137 :: oi :: [], []⟩ a
noncomputable def r_laws_heldArgS (a : List DC) : Out := Run cfg 100 ⟨ol 184 :: oi :: [], []⟩ a
noncomputable def r_laws_szOp (a : List DC) : Out := Run cfg 146 ⟨.agg [.i .i64, .s, .sl 240, .sl 202, .sl 243] :: oi :: [], []⟩ a
noncomputable def r_laws_szFrag (a : List DC) : Out := Run cfg 147 ⟨.agg [.s, .s, .sl 202, .sl 243] :: oi :: [], []⟩ a
noncomputable def r_laws_szDef (a : List DC) : Out := Run cfg 66 ⟨.agg [.i .i64, .b, .s, .s, .sl 9, .sl 189, .sl 195, .sl 198, .sl 126, .b, .sl 202] :: oi :: [], []⟩ a
noncomputable def r_laws_toOp (a : List DC) : Out := Run cfg 148 ⟨.agg [.i .i64, .s, .sl 240, .sl 202, .sl 243] :: [], []⟩ a
noncomputable def r_laws_toFrag (a : List DC) : Out := Run cfg 149 ⟨.agg [.s, .s, .sl 202, .sl 243] :: [], []⟩ a
noncomputable def r_laws_toDef (a : List DC) : Out := Run cfg 70 ⟨.agg [.i .i64, .b, .s, .s, .sl 9, .sl 189, .sl 195, .sl 198, .sl 126, .b, .sl 202] :: [], []⟩ a
noncomputable def r_spec_l07Copy (a : List DC) : Out := Run cfg 126 ⟨.agg [.i .i64, .s, .sl 137, .sl 9] :: [], []⟩ a
noncomputable def r_spec_l10Args (a : List DC) : Out := Run cfg 127 ⟨ol 184 :: [], []⟩ a
noncomputable def r_impl_cloneValue (a : List DC) : Out := Run cfg 132 ⟨.agg [.i .i64, .s, .sl 137, .sl 9] :: [], []⟩ a
noncomputable def r_impl_cloneArgs (a : List DC) : Out := Run cfg 133 ⟨ol 184 :: [], []⟩ a
noncomputable def r_laws_eqFieldDef (a : List DC) : Out := Run cfg 11 ⟨.agg [.s, .s, .sl 139, .s, .s, .sl 143] :: .agg [.s, .s, .sl 139, .s, .s, .sl 143] :: [], []⟩ a
noncomputable def r_laws_eqInDef (a : List DC) : Out := Run cfg 94 ⟨.agg [.s, .s, .s, .s, .b, .i .i64, .s, .sl 137, .sl 9, .sl 143] :: .agg [.s, .s, .s, .s, .b, .i .i64, .s, .sl 137, .sl 9, .sl 143] :: [], []⟩ a
noncomputable def r_laws_eqEnumDef (a : List DC) : Out := Run cfg 108 ⟨.agg [.s, .s, .sl 143] :: .agg [.s, .s, .sl 143] :: [], []⟩ a
noncomputable def r_laws_eqRoot (a : List DC) : Out := Run cfg 96 ⟨.agg [.i .i64, .s] :: .agg [.i .i64, .s] :: [], []⟩ a
noncomputable def r_laws_eqDir (a : List DC) : Out := Run cfg 95 ⟨.agg [.s, .sl 184] :: .agg [.s, .sl 184] :: [], []⟩ a
noncomputable def r_laws_eqOp (a : List DC) : Out := Run cfg 150 ⟨.agg [.i .i64, .s, .sl 214, .sl 143, .sl 216] :: .agg [.i .i64, .s, .sl 214, .sl 143, .sl 216] :: [], []⟩ a
noncomputable def r_laws_eqFrag (a : List DC) : Out := Run cfg 151 ⟨.agg [.s, .s, .sl 143, .sl 216] :: .agg [.s, .s, .sl 143, .sl 216] :: [], []⟩ a
noncomputable def r_laws_szVarDefS (a : List DC) : Out := Run cfg 162 ⟨ol 240 :: oi :: [], []⟩ a
noncomputable def r_laws_szDirS (a : List DC) : Out := Run cfg 113 ⟨ol 202 :: oi :: [], []⟩ a
noncomputable def r_laws_szSelS (a : List DC) : Out := Run cfg 163 ⟨ol 243 :: oi :: [], []⟩ a
noncomputable def r_laws_szStringS (a : List DC) : Out := Run cfg 109 ⟨ol 9 :: oi :: [], []⟩ a
noncomputable def r_laws_szFieldDefS (a : List DC) : Out := Run cfg 110 ⟨ol 189 :: oi :: [], []⟩ a
noncomputable def r_laws_szInDefS (a : List DC) : Out := Run cfg 111 ⟨ol 195 :: oi :: [], []⟩ a
noncomputable def r_laws_szEnumDefS (a : List DC) : Out := Run cfg 112 ⟨ol 198 :: oi :: [], []⟩ a
noncomputable def r_laws_szRootS (a : List DC) : Out := Run cfg 37 ⟨ol 126 :: oi :: [], []⟩ a
noncomputable def r_laws_toVarDefS (a : List DC) : Out := Run cfg 164 ⟨ol 240 :: [], []⟩ a
noncomputable def r_laws_toDirS (a : List DC) : Out := Run cfg 118 ⟨ol 202 :: [], []⟩ a
noncomputable def r_laws_toSelS (a : List DC) : Out := Run cfg 165 ⟨ol 243 :: [], []⟩ a
noncomputable def r_laws_toStringS (a : List DC) : Out := Run cfg 114 ⟨ol 9 :: [], []⟩ a
noncomputable def r_laws_toFieldDefS (a : List DC) : Out := Run cfg 115 ⟨ol 189 :: [], []⟩ a
noncomputable def r_laws_toInDefS (a : List DC) : Out := Run cfg 116 ⟨ol 195 :: [], []⟩ a
noncomputable def r_laws_toEnumDefS (a : List DC) : Out := Run cfg 117 ⟨ol 198 :: [], []⟩ a
noncomputable def r_laws_toRootS (a : List DC) : Out := Run cfg 40 ⟨ol 126 :: [], []⟩ a
noncomputable def r_laws_eqType (a : List DC) : Out := Run cfg 44 ⟨.agg [.s, .s] :: .agg [.s, .s] :: [], []⟩ a
noncomputable def r_laws_eqValue (a : List DC) : Out := Run cfg 134 ⟨.agg [.i .i64, .s, .sl 137, .sl 9] :: .agg [.i .i64, .s, .sl 137, .sl 9] :: [], []⟩ a
noncomputable def r_laws_eqArgS (a : List DC) : Out := Run cfg 135 ⟨ol 184 :: ol 184 :: [], []⟩ a
noncomputable def r_laws_eqVarDefS (a : List DC) : Out := Run cfg 166 ⟨ol 214 :: ol 214 :: [], []⟩ a
noncomputable def r_laws_eqSelS (a : List DC) : Out := Run cfg 167 ⟨ol 216 :: ol 216 :: [], []⟩ a
noncomputable def r_laws_szVarDef (a : List DC) : Out := Run cfg 172 ⟨.agg [.s, .s, .s, .b, .i .i64, .s, .sl 193, .sl 9, .sl 202] :: oi :: [], []⟩ a
noncomputable def r_laws_szDir (a : List DC) : Out := Run cfg 141 ⟨.agg [.s, .sl 235] :: oi :: [], []⟩ a
noncomputable def r_laws_szSel (a : List DC) : Out := Run cfg 173 ⟨.agg [.i .i64, .s, .s, .s, .sl 235, .sl 202, .sl 243] :: oi :: [], []⟩ a
noncomputable def r_laws_szFieldDef (a : List DC) : Out := Run cfg 138 ⟨.agg [.s, .s, .sl 195, .s, .s, .sl 202] :: oi :: [], []⟩ a
noncomputable def r_laws_szInDef (a : List DC) : Out := Run cfg 139 ⟨.agg [.s, .s, .s, .s, .b, .i .i64, .s, .sl 193, .sl 9, .sl 202] :: oi :: [], []⟩ a
noncomputable def r_laws_szEnumDef (a : List DC) : Out := Run cfg 140 ⟨.agg [.s, .s, .sl 202] :: oi :: [], []⟩ a
noncomputable def r_laws_szRoot (a : List DC) : Out := Run cfg 83 ⟨.agg [.i .i64, .s] :: oi :: [], []⟩ a
noncomputable def r_laws_toVarDef (a : List DC) : Out := Run cfg 174 ⟨.agg [.s, .s, .s, .b, .i .i64, .s, .sl 193, .sl 9, .sl 202] :: [], []⟩ a
noncomputable def r_laws_toDir (a : List DC) : Out := Run cfg 145 ⟨.agg [.s, .sl 235] :: [], []⟩ a
noncomputable def r_laws_toSel (a : List DC) : Out := Run cfg 175 ⟨.agg [.i .i64, .s, .s, .s, .sl 235, .sl 202, .sl 243] :: [], []⟩ a
noncomputable def r_laws_toFieldDef (a : List DC) : Out := Run cfg 142 ⟨.agg [.s, .s, .sl 195, .s, .s, .sl 202] :: [], []⟩ a
noncomputable def r_laws_toInDef (a : List DC) : Out := Run cfg 143 ⟨.agg [.s, .s, .s, .s, .b, .i .i64, .s, .sl 193, .sl 9, .sl 202] :: [], []⟩ a
noncomputable def r_laws_toEnumDef (a : List DC) : Out := Run cfg 144 ⟨.agg [.s, .s, .sl 202] :: [], []⟩ a
noncomputable def r_laws_toRoot (a : List DC) : Out := Run cfg 88 ⟨.agg [.i .i64, .s] :: [], []⟩ a
noncomputable def r_laws_eqValueS (a : List DC) : Out := Run cfg 154 ⟨ol 137 :: ol 137 :: [], []⟩ a
noncomputable def r_laws_eqArg (a : List DC) : Out := Run cfg 155 ⟨.agg [.s, .i .i64, .s, .sl 137, .sl 9] :: .agg [.s, .i .i64, .s, .sl 137, .sl 9] :: [], []⟩ a
noncomputable def r_laws_eqVarDef (a : List DC) : Out := Run cfg 176 ⟨.agg [.s, .s, .s, .b, .i .i64, .s, .sl 137, .sl 9, .sl 143] :: .agg [.s, .s, .s, .b, .i .i64, .s, .sl 137, .sl 9, .sl 143] :: [], []⟩ a
noncomputable def r_laws_eqSel (a : List DC) : Out := Run cfg 177 ⟨.agg [.i .i64, .s, .s, .s, .sl 184, .sl 143, .sl 216] :: .agg [.i .i64, .s, .s, .s, .sl 184, .sl 143, .sl 216] :: [], []⟩ a
noncomputable def r_laws_szType (a : List DC) : Out := Run cfg 156 ⟨.agg [.s, .s] :: oi :: [], []⟩ a
noncomputable def r_laws_szValue (a : List DC) : Out := Run cfg 157 ⟨.agg [.i .i64, .s, .sl 193, .sl 9] :: oi :: [], []⟩ a
noncomputable def r_laws_szArgS (a : List DC) : Out := Run cfg 158 ⟨ol 235 :: oi :: [], []⟩ a
noncomputable def r_laws_toType (a : List DC) : Out := Run cfg 159 ⟨.agg [.s, .s] :: [], []⟩ a
noncomputable def r_laws_toValue (a : List DC) : Out := Run cfg 160 ⟨.agg [.i .i64, .s, .sl 193, .sl 9] :: [], []⟩ a
noncomputable def r_laws_toArgS (a : List DC) : Out := Run cfg 161 ⟨ol 235 :: [], []⟩ a
noncomputable def r_laws_szValueS (a : List DC) : Out := Run cfg 168 ⟨ol 193 :: oi :: [], []⟩ a
noncomputable def r_laws_szArg (a : List DC) : Out := Run cfg 169 ⟨.agg [.s, .i .i64, .s, .sl 193, .sl 9] :: oi :: [], []⟩ a
noncomputable def r_laws_toValueS (a : List DC) : Out := Run cfg 170 ⟨ol 193 :: [], []⟩ a
noncomputable def r_laws_toArg (a : List DC) : Out := Run cfg 171 ⟨.agg [.s, .i .i64, .s, .sl 193, .sl 9] :: [], []⟩ a
noncomputable def E_laws_FnExactDefsIn (a : List DC) : Out :=
 (r_laws_szDoc [.sl ((a.getD 0 d0).ll), .i (1048576 : Int)]).bindR fun r1 =>
 if (decide ((r1.getD 0 d0).ii < (0 : Int))) = true then
 .ret [.b true]
 else
 (r_laws_toDoc [.sl ((a.getD 0 d0).ll)]).bindR fun r2 =>
 (r_spec_DefsIn [.sl ((r2.getD 0 d0).ll)]).bindR fun r3 =>
 (r_laws_toDoc [.sl ((a.getD 0 d0).ll)]).bindR fun r4 =>
 (r_impl_DefsIn [.sl ((r4.getD 0 d0).ll)]).bindR fun r5 =>
 Out.andThen ((r_laws_eqDefS [.sl ((r5.getD 0 d0).ll), .sl ((r3.getD 0 d0).ll)]).bindR fun r6 =>
 if (!((r6.getD 0 d0).bb)) = true then
 .norm [.sl ((r3.getD 0 d0).ll), .sl ((r3.getD 1 d0).ll), .sl ((r5.getD 0 d0).ll), .sl ((r5.getD 1 d0).ll), .b true, .sl ((a.getD 0 d0).ll), .sl ((r4.getD 0 d0).ll)]
 else
 (r_laws_eqProblemS [.sl ((r5.getD 1 d0).ll), .sl ((r3.getD 1 d0).ll)]).bindR fun r7 =>
 .norm [.sl ((r3.getD 0 d0).ll), .sl ((r3.getD 1 d0).ll), .sl ((r5.getD 0 d0).ll), .sl ((r5.getD 1 d0).ll), .b (!((r7.getD 0 d0).bb)), .sl ((a.getD 0 d0).ll), .sl ((r4.getD 0 d0).ll)]) fun v8 =>
 if (v8.getD 4 d0).bb = true then
 .ret [.b false]
 else
 (r_laws_toDoc [.sl ((v8.getD 5 d0).ll)]).bindR fun r9 =>
 (r_laws_eqDoc [.sl ((v8.getD 6 d0).ll), .sl ((r9.getD 0 d0).ll)]).bindR fun r10 =>
 if (!((r10.getD 0 d0).bb)) = true then
 .ret [.b false]
 else
 markM Out.fail (mkAV mT mTab [82] [(v8.getD 6 d0).ll] (1 : Int)) 1 fun l11 k12 =>
 Out.andThen (if (decide (k12 < (0 : Int))) = true then
 .norm [.sl ((v8.getD 0 d0).ll), .sl ((v8.getD 1 d0).ll), .sl ((v8.getD 2 d0).ll), .sl ((v8.getD 3 d0).ll), .b true, .sl ((v8.getD 5 d0).ll)]
 else
 (r_laws_eqDefS [.sl ((v8.getD 2 d0).ll), .sl ((v8.getD 0 d0).ll)]).bindR fun r13 =>
 if (!((r13.getD 0 d0).bb)) = true then
 .norm [.sl ((v8.getD 0 d0).ll), .sl ((v8.getD 1 d0).ll), .sl ((v8.getD 2 d0).ll), .sl ((v8.getD 3 d0).ll), .b true, .sl ((v8.getD 5 d0).ll)]
 else
 (r_laws_eqProblemS [.sl ((v8.getD 3 d0).ll), .sl ((v8.getD 1 d0).ll)]).bindR fun r14 =>
 .norm [.sl ((v8.getD 0 d0).ll), .sl ((v8.getD 1 d0).ll), .sl ((v8.getD 2 d0).ll), .sl ((v8.getD 3 d0).ll), .b (!((r14.getD 0 d0).bb)), .sl ((v8.getD 5 d0).ll)]) fun v15 =>
 if (v15.getD 4 d0).bb = true then
 .ret [.b false]
 else
 markM Out.fail (mkV mT mTab 27 [(v15.getD 2 d0).ll] (1 : Int)) 1 fun l16 k17 =>
 markM Out.fail (mkV mT mTab 28 [(v15.getD 3 d0).ll] k17) 1 fun l18 k19 =>
 (r_laws_heldDefS [.sl (l16.getD 0 []), .i (1 : Int)]).bindR fun r20 =>
 if (decide ((r20.getD 0 d0).ii < (0 : Int))) = true then
 .ret [.b false]
 else
 (r_laws_heldProblemS [.sl (l18.getD 0 []), .i ((r20.getD 0 d0).ii)]).bindR fun r21 =>
 if (decide ((r21.getD 0 d0).ii < (0 : Int))) = true then
 .ret [.b false]
 else
 if ((r21.getD 0 d0).ii != k19) = true then
 .ret [.b false]
 else
 (r_laws_toDoc [.sl ((v15.getD 5 d0).ll)]).bindR fun r22 =>
 (r_impl_DefsIn [.sl ((r22.getD 0 d0).ll)]).bindR fun r23 =>
 Out.andThen ((r_laws_eqDefS [.sl ((r23.getD 0 d0).ll), .sl ((v15.getD 0 d0).ll)]).bindR fun r24 =>
 if (!((r24.getD 0 d0).bb)) = true then
 .norm [.sl (l16.getD 0 []), .sl (l18.getD 0 []), .i k19, .b true]
 else
 (r_laws_eqProblemS [.sl ((r23.getD 1 d0).ll), .sl ((v15.getD 1 d0).ll)]).bindR fun r25 =>
 .norm [.sl (l16.getD 0 []), .sl (l18.getD 0 []), .i k19, .b (!((r25.getD 0 d0).bb))]) fun v26 =>
 if (v26.getD 3 d0).bb = true then
 .ret [.b false]
 else
 (r_laws_heldDefS [.sl ((v26.getD 0 d0).ll), .i (1 : Int)]).bindR fun r27 =>
 if (decide ((r27.getD 0 d0).ii < (0 : Int))) = true then
 .ret [.b false]
 else
 (r_laws_heldProblemS [.sl ((v26.getD 1 d0).ll), .i ((r27.getD 0 d0).ii)]).bindR fun r28 =>
 if (decide ((r28.getD 0 d0).ii < (0 : Int))) = true then
 .ret [.b false]
 else
 if ((r28.getD 0 d0).ii != (v26.getD 2 d0).ii) = true then
 .ret [.b false]
 else
 .ret [.b true]
theorem eq_laws_FnExactDefsIn a : r_laws_FnExactDefsIn a = E_laws_FnExactDefsIn a := (Run_eq cfg 6 _ a).trans (by kernel_rfl)
noncomputable def E_laws_szDoc (a : List DC) : Out :=
 (r_laws_szItemS [.sl ((a.getD 0 d0).ll), .i ((a.getD 1 d0).ii)]).bindR fun r1 =>
 if (decide ((r1.getD 0 d0).ii < (0 : Int))) = true then
 .ret [.i (-1 : Int)]
 else
 .ret [.i ((r1.getD 0 d0).ii)]
theorem eq_laws_szDoc a : r_laws_szDoc a = E_laws_szDoc a := (Run_eq cfg 31 _ a).trans (by kernel_rfl)
noncomputable def E_laws_toDoc (a : List DC) : Out :=
 (r_laws_toItemS [.sl ((a.getD 0 d0).ll)]).bindR fun r1 =>
 .ret [.sl ((r1.getD 0 d0).ll)]
theorem eq_laws_toDoc a : r_laws_toDoc a = E_laws_toDoc a := (Run_eq cfg 33 _ a).trans (by kernel_rfl)
noncomputable def E_spec_DefsInL1 : List DC → Out := fun v1 =>
 if (decide ((v1.getD 2 d0).ii < (((v1.getD 3 d0).ll).length : Int))) = true then
 Out.andThenB (if 120 = 120 ∧ 0 ≤ (v1.getD 2 d0).ii ∧ (v1.getD 2 d0).ii < (((v1.getD 3 d0).ll).length : Int) then
 Out.andThenB (Out.andThen (if (((((v1.getD 3 d0).ll).getD ((v1.getD 2 d0).ii).toNat []).getD 0 d0).ii == (3 : Int)) = true then
 (r_spec_l13Copy [.i (((((v1.getD 3 d0).ll).getD ((v1.getD 2 d0).ii).toNat []).getD 10 d0).ii), .b (((((v1.getD 3 d0).ll).getD ((v1.getD 2 d0).ii).toNat []).getD 11 d0).bb), .s (((((v1.getD 3 d0).ll).getD ((v1.getD 2 d0).ii).toNat []).getD 12 d0).ss), .s (((((v1.getD 3 d0).ll).getD ((v1.getD 2 d0).ii).toNat []).getD 13 d0).ss), .sl (((((v1.getD 3 d0).ll).getD ((v1.getD 2 d0).ii).toNat []).getD 14 d0).ll), .sl (((((v1.getD 3 d0).ll).getD ((v1.getD 2 d0).ii).toNat []).getD 15 d0).ll), .sl (((((v1.getD 3 d0).ll).getD ((v1.getD 2 d0).ii).toNat []).getD 16 d0).ll), .sl (((((v1.getD 3 d0).ll).getD ((v1.getD 2 d0).ii).toNat []).getD 17 d0).ll), .sl (((((v1.getD 3 d0).ll).getD ((v1.getD 2 d0).ii).toNat []).getD 18 d0).ll), .b (((((v1.getD 3 d0).ll).getD ((v1.getD 2 d0).ii).toNat []).getD 19 d0).bb), .sl (((((v1.getD 3 d0).ll).getD ((v1.getD 2 d0).ii).toNat []).getD 20 d0).ll)]).bindR fun r2 =>
 if ((v1.getD 0 d0).ll).length + [[DC.i ((r2.getD 0 d0).ii), DC.b ((r2.getD 1 d0).bb), DC.s ((r2.getD 2 d0).ss), DC.s ((r2.getD 3 d0).ss), DC.sl ((r2.getD 4 d0).ll), DC.sl ((r2.getD 5 d0).ll), DC.sl ((r2.getD 6 d0).ll), DC.sl ((r2.getD 7 d0).ll), DC.sl ((r2.getD 8 d0).ll), DC.b ((r2.getD 9 d0).bb), DC.sl ((r2.getD 10 d0).ll)]].length < LIM ∧ 35 = 35 then
 .norm [.sl (((v1.getD 0 d0).ll) ++ [[DC.i ((r2.getD 0 d0).ii), DC.b ((r2.getD 1 d0).bb), DC.s ((r2.getD 2 d0).ss), DC.s ((r2.getD 3 d0).ss), DC.sl ((r2.getD 4 d0).ll), DC.sl ((r2.getD 5 d0).ll), DC.sl ((r2.getD 6 d0).ll), DC.sl ((r2.getD 7 d0).ll), DC.sl ((r2.getD 8 d0).ll), DC.b ((r2.getD 9 d0).bb), DC.sl ((r2.getD 10 d0).ll)]]), .sl ((v1.getD 1 d0).ll), .i ((v1.getD 2 d0).ii), .sl ((v1.getD 3 d0).ll)]
 else
 .fail
 else
 Out.andThen (if (((((v1.getD 3 d0).ll).getD ((v1.getD 2 d0).ii).toNat []).getD 0 d0).ii == (2 : Int)) = true then
 if ((v1.getD 1 d0).ll).length + [[DC.i (1 : Int), DC.s (((((v1.getD 3 d0).ll).getD ((v1.getD 2 d0).ii).toNat []).getD 6 d0).ss), DC.s []]].length < LIM then
 .norm [.sl ((v1.getD 0 d0).ll), .sl (((v1.getD 1 d0).ll) ++ [[DC.i (1 : Int), DC.s (((((v1.getD 3 d0).ll).getD ((v1.getD 2 d0).ii).toNat []).getD 6 d0).ss), DC.s []]]), .i ((v1.getD 2 d0).ii), .sl ((v1.getD 3 d0).ll)]
 else
 .fail
 else
 if ((v1.getD 1 d0).ll).length + [[DC.i (1 : Int), DC.s (((((v1.getD 3 d0).ll).getD ((v1.getD 2 d0).ii).toNat []).getD 2 d0).ss), DC.s []]].length < LIM then
 .norm [.sl ((v1.getD 0 d0).ll), .sl (((v1.getD 1 d0).ll) ++ [[DC.i (1 : Int), DC.s (((((v1.getD 3 d0).ll).getD ((v1.getD 2 d0).ii).toNat []).getD 2 d0).ss), DC.s []]]), .i ((v1.getD 2 d0).ii), .sl ((v1.getD 3 d0).ll)]
 else
 .fail) fun v3 =>
 .norm [.sl ((v3.getD 0 d0).ll), .sl ((v3.getD 1 d0).ll), .i ((v3.getD 2 d0).ii), .sl ((v3.getD 3 d0).ll)]) fun v4 =>
 .norm [.sl ((v4.getD 0 d0).ll), .sl ((v4.getD 1 d0).ll), .i ((v4.getD 2 d0).ii), .sl ((v4.getD 3 d0).ll)]) 2 fun v5 =>
 .norm [.sl ((v5.getD 0 d0).ll), .sl ((v5.getD 1 d0).ll), .i ((v5.getD 2 d0).ii), .sl ((v5.getD 3 d0).ll)]
 else
 .fail) 1 fun v6 =>
 .norm [.sl ((v6.getD 0 d0).ll), .sl ((v6.getD 1 d0).ll), .i (IntKind.i64.wrap ((v6.getD 2 d0).ii + (1 : Int))), .sl ((v6.getD 3 d0).ll)]
 else
 .ex 0 [.sl ((v1.getD 0 d0).ll), .sl ((v1.getD 1 d0).ll)]
noncomputable def E_spec_DefsIn (a : List DC) : Out :=
 Out.andThenB (Loop E_spec_DefsInL1 [.sl [], .sl [], .i (0 : Int), .sl ((a.getD 0 d0).ll)]) 0 fun v7 =>
 .ret [.sl ((v7.getD 0 d0).ll), .sl ((v7.getD 1 d0).ll)]
theorem eq_spec_DefsIn a : r_spec_DefsIn a = E_spec_DefsIn a := (Run_eq cfg 32 _ a).trans (by kernel_rfl)
noncomputable def E_impl_DefsInL1 : List DC → Out := fun v1 =>
 if (decide ((v1.getD 4 d0).ii < (v1.getD 3 d0).ii)) = true then
 Out.andThenB (if 120 = 120 ∧ 0 ≤ (v1.getD 4 d0).ii ∧ (v1.getD 4 d0).ii < (((v1.getD 2 d0).ll).length : Int) then
 Out.andThenB (Out.andThen (if (((((v1.getD 2 d0).ll).getD ((v1.getD 4 d0).ii).toNat []).getD 0 d0).ii == (3 : Int)) = true then
 (r_impl_cloneDef [.i (((((v1.getD 2 d0).ll).getD ((v1.getD 4 d0).ii).toNat []).getD 10 d0).ii), .b (((((v1.getD 2 d0).ll).getD ((v1.getD 4 d0).ii).toNat []).getD 11 d0).bb), .s (((((v1.getD 2 d0).ll).getD ((v1.getD 4 d0).ii).toNat []).getD 12 d0).ss), .s (((((v1.getD 2 d0).ll).getD ((v1.getD 4 d0).ii).toNat []).getD 13 d0).ss), .sl (((((v1.getD 2 d0).ll).getD ((v1.getD 4 d0).ii).toNat []).getD 14 d0).ll), .sl (((((v1.getD 2 d0).ll).getD ((v1.getD 4 d0).ii).toNat []).getD 15 d0).ll), .sl (((((v1.getD 2 d0).ll).getD ((v1.getD 4 d0).ii).toNat []).getD 16 d0).ll), .sl (((((v1.getD 2 d0).ll).getD ((v1.getD 4 d0).ii).toNat []).getD 17 d0).ll), .sl (((((v1.getD 2 d0).ll).getD ((v1.getD 4 d0).ii).toNat []).getD 18 d0).ll), .b (((((v1.getD 2 d0).ll).getD ((v1.getD 4 d0).ii).toNat []).getD 19 d0).bb), .sl (((((v1.getD 2 d0).ll).getD ((v1.getD 4 d0).ii).toNat []).getD 20 d0).ll)]).bindR fun r2 =>
 if ((v1.getD 0 d0).ll).length + [[DC.i ((r2.getD 0 d0).ii), DC.b ((r2.getD 1 d0).bb), DC.s ((r2.getD 2 d0).ss), DC.s ((r2.getD 3 d0).ss), DC.sl ((r2.getD 4 d0).ll), DC.sl ((r2.getD 5 d0).ll), DC.sl ((r2.getD 6 d0).ll), DC.sl ((r2.getD 7 d0).ll), DC.sl ((r2.getD 8 d0).ll), DC.b ((r2.getD 9 d0).bb), DC.sl ((r2.getD 10 d0).ll)]].length < LIM ∧ 35 = 35 then
 .norm [.sl (((v1.getD 0 d0).ll) ++ [[DC.i ((r2.getD 0 d0).ii), DC.b ((r2.getD 1 d0).bb), DC.s ((r2.getD 2 d0).ss), DC.s ((r2.getD 3 d0).ss), DC.sl ((r2.getD 4 d0).ll), DC.sl ((r2.getD 5 d0).ll), DC.sl ((r2.getD 6 d0).ll), DC.sl ((r2.getD 7 d0).ll), DC.sl ((r2.getD 8 d0).ll), DC.b ((r2.getD 9 d0).bb), DC.sl ((r2.getD 10 d0).ll)]]), .sl ((v1.getD 1 d0).ll), .sl ((v1.getD 2 d0).ll), .i ((v1.getD 3 d0).ii), .i ((v1.getD 4 d0).ii)]
 else
 .fail
 else
 Out.andThen (if (((((v1.getD 2 d0).ll).getD ((v1.getD 4 d0).ii).toNat []).getD 0 d0).ii == (2 : Int)) = true then
 if ((v1.getD 1 d0).ll).length + [[DC.i (1 : Int), DC.s (((((v1.getD 2 d0).ll).getD ((v1.getD 4 d0).ii).toNat []).getD 6 d0).ss), DC.s []]].length < LIM then
 .norm [.sl ((v1.getD 0 d0).ll), .sl (((v1.getD 1 d0).ll) ++ [[DC.i (1 : Int), DC.s (((((v1.getD 2 d0).ll).getD ((v1.getD 4 d0).ii).toNat []).getD 6 d0).ss), DC.s []]]), .sl ((v1.getD 2 d0).ll), .i ((v1.getD 3 d0).ii), .i ((v1.getD 4 d0).ii)]
 else
 .fail
 else
 if ((v1.getD 1 d0).ll).length + [[DC.i (1 : Int), DC.s (((((v1.getD 2 d0).ll).getD ((v1.getD 4 d0).ii).toNat []).getD 2 d0).ss), DC.s []]].length < LIM then
 .norm [.sl ((v1.getD 0 d0).ll), .sl (((v1.getD 1 d0).ll) ++ [[DC.i (1 : Int), DC.s (((((v1.getD 2 d0).ll).getD ((v1.getD 4 d0).ii).toNat []).getD 2 d0).ss), DC.s []]]), .sl ((v1.getD 2 d0).ll), .i ((v1.getD 3 d0).ii), .i ((v1.getD 4 d0).ii)]
 else
 .fail) fun v3 =>
 .norm [.sl ((v3.getD 0 d0).ll), .sl ((v3.getD 1 d0).ll), .sl ((v3.getD 2 d0).ll), .i ((v3.getD 3 d0).ii), .i ((v3.getD 4 d0).ii)]) fun v4 =>
 .norm [.sl ((v4.getD 0 d0).ll), .sl ((v4.getD 1 d0).ll), .sl ((v4.getD 2 d0).ll), .i ((v4.getD 3 d0).ii), .i ((v4.getD 4 d0).ii)]) 2 fun v5 =>
 .norm [.sl ((v5.getD 0 d0).ll), .sl ((v5.getD 1 d0).ll), .sl ((v5.getD 2 d0).ll), .i ((v5.getD 3 d0).ii), .i ((v5.getD 4 d0).ii)]
 else
 .fail) 1 fun v6 =>
 .norm [.sl ((v6.getD 0 d0).ll), .sl ((v6.getD 1 d0).ll), .sl ((v6.getD 2 d0).ll), .i ((v6.getD 3 d0).ii), .i (IntKind.i64.wrap ((v6.getD 4 d0).ii + (1 : Int)))]
 else
 .ex 0 [.sl ((v1.getD 0 d0).ll), .sl ((v1.getD 1 d0).ll)]
noncomputable def E_impl_DefsIn (a : List DC) : Out :=
 Out.andThenB (Loop E_impl_DefsInL1 [.sl [], .sl [], .sl ((a.getD 0 d0).ll), .i (((a.getD 0 d0).ll).length : Int), .i (0 : Int)]) 0 fun v7 =>
 .ret [.sl ((v7.getD 0 d0).ll), .sl ((v7.getD 1 d0).ll)]
theorem eq_impl_DefsIn a : r_impl_DefsIn a = E_impl_DefsIn a := (Run_eq cfg 34 _ a).trans (by kernel_rfl)
noncomputable def E_laws_eqDefSL1 : List DC → Out := fun v1 =>
 if (decide ((v1.getD 2 d0).ii < (((v1.getD 0 d0).ll).length : Int))) = true then
 Out.andThenB (if 49 = 49 ∧ 0 ≤ (v1.getD 2 d0).ii ∧ (v1.getD 2 d0).ii < (((v1.getD 0 d0).ll).length : Int) then
 if 49 = 49 ∧ 0 ≤ (v1.getD 2 d0).ii ∧ (v1.getD 2 d0).ii < (((v1.getD 1 d0).ll).length : Int) then
 (r_laws_eqDef [.i (((((v1.getD 0 d0).ll).getD ((v1.getD 2 d0).ii).toNat []).getD 0 d0).ii), .b (((((v1.getD 0 d0).ll).getD ((v1.getD 2 d0).ii).toNat []).getD 1 d0).bb), .s (((((v1.getD 0 d0).ll).getD ((v1.getD 2 d0).ii).toNat []).getD 2 d0).ss), .s (((((v1.getD 0 d0).ll).getD ((v1.getD 2 d0).ii).toNat []).getD 3 d0).ss), .sl (((((v1.getD 0 d0).ll).getD ((v1.getD 2 d0).ii).toNat []).getD 4 d0).ll), .sl (((((v1.getD 0 d0).ll).getD ((v1.getD 2 d0).ii).toNat []).getD 5 d0).ll), .sl (((((v1.getD 0 d0).ll).getD ((v1.getD 2 d0).ii).toNat []).getD 6 d0).ll), .sl (((((v1.getD 0 d0).ll).getD ((v1.getD 2 d0).ii).toNat []).getD 7 d0).ll), .sl (((((v1.getD 0 d0).ll).getD ((v1.getD 2 d0).ii).toNat []).getD 8 d0).ll), .b (((((v1.getD 0 d0).ll).getD ((v1.getD 2 d0).ii).toNat []).getD 9 d0).bb), .sl (((((v1.getD 0 d0).ll).getD ((v1.getD 2 d0).ii).toNat []).getD 10 d0).ll), .i (((((v1.getD 1 d0).ll).getD ((v1.getD 2 d0).ii).toNat []).getD 0 d0).ii), .b (((((v1.getD 1 d0).ll).getD ((v1.getD 2 d0).ii).toNat []).getD 1 d0).bb), .s (((((v1.getD 1 d0).ll).getD ((v1.getD 2 d0).ii).toNat []).getD 2 d0).ss), .s (((((v1.getD 1 d0).ll).getD ((v1.getD 2 d0).ii).toNat []).getD 3 d0).ss), .sl (((((v1.getD 1 d0).ll).getD ((v1.getD 2 d0).ii).toNat []).getD 4 d0).ll), .sl (((((v1.getD 1 d0).ll).getD ((v1.getD 2 d0).ii).toNat []).getD 5 d0).ll), .sl (((((v1.getD 1 d0).ll).getD ((v1.getD 2 d0).ii).toNat []).getD 6 d0).ll), .sl (((((v1.getD 1 d0).ll).getD ((v1.getD 2 d0).ii).toNat []).getD 7 d0).ll), .sl (((((v1.getD 1 d0).ll).getD ((v1.getD 2 d0).ii).toNat []).getD 8 d0).ll), .b (((((v1.getD 1 d0).ll).getD ((v1.getD 2 d0).ii).toNat []).getD 9 d0).bb), .sl (((((v1.getD 1 d0).ll).getD ((v1.getD 2 d0).ii).toNat []).getD 10 d0).ll)]).bindR fun r2 =>
 if (!((r2.getD 0 d0).bb)) = true then
 .ret [.b false]
 else
 .norm [.sl ((v1.getD 0 d0).ll), .sl ((v1.getD 1 d0).ll), .i ((v1.getD 2 d0).ii)]
 else
 .fail
 else
 .fail) 1 fun v3 =>
 .norm [.sl ((v3.getD 0 d0).ll), .sl ((v3.getD 1 d0).ll), .i (IntKind.i64.wrap ((v3.getD 2 d0).ii + (1 : Int)))]
 else
 .ex 0 []
noncomputable def E_laws_eqDefS (a : List DC) : Out :=
 if ((((a.getD 0 d0).ll).length : Int) != (((a.getD 1 d0).ll).length : Int)) = true then
 .ret [.b false]
 else
 Out.andThenB (Loop E_laws_eqDefSL1 [.sl ((a.getD 0 d0).ll), .sl ((a.getD 1 d0).ll), .i (0 : Int)]) 0 fun v4 =>
 .ret [.b true]
theorem eq_laws_eqDefS a : r_laws_eqDefS a = E_laws_eqDefS a := (Run_eq cfg 25 _ a).trans (by kernel_rfl)
noncomputable def E_laws_eqProblemSL1 : List DC → Out := fun v1 =>
 if (decide ((v1.getD 2 d0).ii < (((v1.getD 0 d0).ll).length : Int))) = true then
 Out.andThenB (if 102 = 102 ∧ 0 ≤ (v1.getD 2 d0).ii ∧ (v1.getD 2 d0).ii < (((v1.getD 0 d0).ll).length : Int) then
 if 102 = 102 ∧ 0 ≤ (v1.getD 2 d0).ii ∧ (v1.getD 2 d0).ii < (((v1.getD 1 d0).ll).length : Int) then
 (r_laws_eqProblem [.i (((((v1.getD 0 d0).ll).getD ((v1.getD 2 d0).ii).toNat []).getD 0 d0).ii), .s (((((v1.getD 0 d0).ll).getD ((v1.getD 2 d0).ii).toNat []).getD 1 d0).ss), .s (((((v1.getD 0 d0).ll).getD ((v1.getD 2 d0).ii).toNat []).getD 2 d0).ss), .i (((((v1.getD 1 d0).ll).getD ((v1.getD 2 d0).ii).toNat []).getD 0 d0).ii), .s (((((v1.getD 1 d0).ll).getD ((v1.getD 2 d0).ii).toNat []).getD 1 d0).ss), .s (((((v1.getD 1 d0).ll).getD ((v1.getD 2 d0).ii).toNat []).getD 2 d0).ss)]).bindR fun r2 =>
 if (!((r2.getD 0 d0).bb)) = true then
 .ret [.b false]
 else
 .norm [.sl ((v1.getD 0 d0).ll), .sl ((v1.getD 1 d0).ll), .i ((v1.getD 2 d0).ii)]
 else
 .fail
 else
 .fail) 1 fun v3 =>
 .norm [.sl ((v3.getD 0 d0).ll), .sl ((v3.getD 1 d0).ll), .i (IntKind.i64.wrap ((v3.getD 2 d0).ii + (1 : Int)))]
 else
 .ex 0 []
noncomputable def E_laws_eqProblemS (a : List DC) : Out :=
 if ((((a.getD 0 d0).ll).length : Int) != (((a.getD 1 d0).ll).length : Int)) = true then
 .ret [.b false]
 else
 Out.andThenB (Loop E_laws_eqProblemSL1 [.sl ((a.getD 0 d0).ll), .sl ((a.getD 1 d0).ll), .i (0 : Int)]) 0 fun v4 =>
 .ret [.b true]
theorem eq_laws_eqProblemS a : r_laws_eqProblemS a = E_laws_eqProblemS a := (Run_eq cfg 26 _ a).trans (by kernel_rfl)
noncomputable def E_laws_eqDoc (a : List DC) : Out :=
 (r_laws_eqItemS [.sl ((a.getD 0 d0).ll), .sl ((a.getD 1 d0).ll)]).bindR fun r1 =>
 if (!((r1.getD 0 d0).bb)) = true then
 .ret [.b false]
 else
 .ret [.b true]
theorem eq_laws_eqDoc a : r_laws_eqDoc a = E_laws_eqDoc a := (Run_eq cfg 35 _ a).trans (by kernel_rfl)
noncomputable def E_laws_heldDefSL1 : List DC → Out := fun v1 =>
 if (decide ((v1.getD 2 d0).ii < (((v1.getD 0 d0).ll).length : Int))) = true then
 Out.andThenB (if 49 = 49 ∧ 0 ≤ (v1.getD 2 d0).ii ∧ (v1.getD 2 d0).ii < (((v1.getD 0 d0).ll).length : Int) then
 if (((((v1.getD 0 d0).ll).getD ((v1.getD 2 d0).ii).toNat []).getD 0 d0).ii != (v1.getD 1 d0).ii) = true then
 .ret [.i (-1 : Int)]
 else
 if 49 = 49 ∧ 0 ≤ (v1.getD 2 d0).ii ∧ (v1.getD 2 d0).ii < (((v1.getD 0 d0).ll).length : Int) then
 if (3 : Int) = 0 then
 .fail
 else
 if (!(((((v1.getD 0 d0).ll).getD ((v1.getD 2 d0).ii).toNat []).getD 1 d0).bb == (((IntKind.i64.wrap ((v1.getD 1 d0).ii + (1 : Int))).tmod (3 : Int)) == (0 : Int)))) = true then
 .ret [.i (-1 : Int)]
 else
 if 49 = 49 ∧ 0 ≤ (v1.getD 2 d0).ii ∧ (v1.getD 2 d0).ii < (((v1.getD 0 d0).ll).length : Int) then
 (r_laws_markText [.i (IntKind.i64.wrap ((IntKind.i64.wrap ((v1.getD 1 d0).ii + (1 : Int))) + (1 : Int)))]).bindR fun r2 =>
 if (!(((((v1.getD 0 d0).ll).getD ((v1.getD 2 d0).ii).toNat []).getD 2 d0).ss == (r2.getD 0 d0).ss)) = true then
 .ret [.i (-1 : Int)]
 else
 if 49 = 49 ∧ 0 ≤ (v1.getD 2 d0).ii ∧ (v1.getD 2 d0).ii < (((v1.getD 0 d0).ll).length : Int) then
 (r_laws_markText [.i (IntKind.i64.wrap ((IntKind.i64.wrap ((IntKind.i64.wrap ((v1.getD 1 d0).ii + (1 : Int))) + (1 : Int))) + (1 : Int)))]).bindR fun r3 =>
 if (!(((((v1.getD 0 d0).ll).getD ((v1.getD 2 d0).ii).toNat []).getD 3 d0).ss == (r3.getD 0 d0).ss)) = true then
 .ret [.i (-1 : Int)]
 else
 if 49 = 49 ∧ 0 ≤ (v1.getD 2 d0).ii ∧ (v1.getD 2 d0).ii < (((v1.getD 0 d0).ll).length : Int) then
 (r_laws_heldStringS [.sl (((((v1.getD 0 d0).ll).getD ((v1.getD 2 d0).ii).toNat []).getD 4 d0).ll), .i (IntKind.i64.wrap ((IntKind.i64.wrap ((IntKind.i64.wrap ((IntKind.i64.wrap ((v1.getD 1 d0).ii + (1 : Int))) + (1 : Int))) + (1 : Int))) + (1 : Int)))]).bindR fun r4 =>
 if (decide ((r4.getD 0 d0).ii < (0 : Int))) = true then
 .ret [.i (-1 : Int)]
 else
 if 49 = 49 ∧ 0 ≤ (v1.getD 2 d0).ii ∧ (v1.getD 2 d0).ii < (((v1.getD 0 d0).ll).length : Int) then
 (r_laws_heldFieldDefS [.sl (((((v1.getD 0 d0).ll).getD ((v1.getD 2 d0).ii).toNat []).getD 5 d0).ll), .i ((r4.getD 0 d0).ii)]).bindR fun r5 =>
 if (decide ((r5.getD 0 d0).ii < (0 : Int))) = true then
 .ret [.i (-1 : Int)]
 else
 if 49 = 49 ∧ 0 ≤ (v1.getD 2 d0).ii ∧ (v1.getD 2 d0).ii < (((v1.getD 0 d0).ll).length : Int) then
 (r_laws_heldInDefS [.sl (((((v1.getD 0 d0).ll).getD ((v1.getD 2 d0).ii).toNat []).getD 6 d0).ll), .i ((r5.getD 0 d0).ii)]).bindR fun r6 =>
 if (decide ((r6.getD 0 d0).ii < (0 : Int))) = true then
 .ret [.i (-1 : Int)]
 else
 if 49 = 49 ∧ 0 ≤ (v1.getD 2 d0).ii ∧ (v1.getD 2 d0).ii < (((v1.getD 0 d0).ll).length : Int) then
 (r_laws_heldEnumDefS [.sl (((((v1.getD 0 d0).ll).getD ((v1.getD 2 d0).ii).toNat []).getD 7 d0).ll), .i ((r6.getD 0 d0).ii)]).bindR fun r7 =>
 if (decide ((r7.getD 0 d0).ii < (0 : Int))) = true then
 .ret [.i (-1 : Int)]
 else
 if 49 = 49 ∧ 0 ≤ (v1.getD 2 d0).ii ∧ (v1.getD 2 d0).ii < (((v1.getD 0 d0).ll).length : Int) then
 (r_laws_heldRootS [.sl (((((v1.getD 0 d0).ll).getD ((v1.getD 2 d0).ii).toNat []).getD 8 d0).ll), .i ((r7.getD 0 d0).ii)]).bindR fun r8 =>
 if (decide ((r8.getD 0 d0).ii < (0 : Int))) = true then
 .ret [.i (-1 : Int)]
 else
 if 49 = 49 ∧ 0 ≤ (v1.getD 2 d0).ii ∧ (v1.getD 2 d0).ii < (((v1.getD 0 d0).ll).length : Int) then
 if (3 : Int) = 0 then
 .fail
 else
 if (!(((((v1.getD 0 d0).ll).getD ((v1.getD 2 d0).ii).toNat []).getD 9 d0).bb == ((((r8.getD 0 d0).ii).tmod (3 : Int)) == (0 : Int)))) = true then
 .ret [.i (-1 : Int)]
 else
 if 49 = 49 ∧ 0 ≤ (v1.getD 2 d0).ii ∧ (v1.getD 2 d0).ii < (((v1.getD 0 d0).ll).length : Int) then
 (r_laws_heldDirS [.sl (((((v1.getD 0 d0).ll).getD ((v1.getD 2 d0).ii).toNat []).getD 10 d0).ll), .i (IntKind.i64.wrap ((r8.getD 0 d0).ii + (1 : Int)))]).bindR fun r9 =>
 if (decide ((r9.getD 0 d0).ii < (0 : Int))) = true then
 .ret [.i (-1 : Int)]
 else
 .norm [.sl ((v1.getD 0 d0).ll), .i ((r9.getD 0 d0).ii), .i ((v1.getD 2 d0).ii)]
 else
 .fail
 else
 .fail
 else
 .fail
 else
 .fail
 else
 .fail
 else
 .fail
 else
 .fail
 else
 .fail
 else
 .fail
 else
 .fail
 else
 .fail) 1 fun v10 =>
 .norm [.sl ((v10.getD 0 d0).ll), .i ((v10.getD 1 d0).ii), .i (IntKind.i64.wrap ((v10.getD 2 d0).ii + (1 : Int)))]
 else
 .ex 0 [.i ((v1.getD 1 d0).ii)]
noncomputable def E_laws_heldDefS (a : List DC) : Out :=
 Out.andThenB (Loop E_laws_heldDefSL1 [.sl ((a.getD 0 d0).ll), .i ((a.getD 1 d0).ii), .i (0 : Int)]) 0 fun v11 =>
 .ret [.i ((v11.getD 0 d0).ii)]
theorem eq_laws_heldDefS a : r_laws_heldDefS a = E_laws_heldDefS a := (Run_eq cfg 29 _ a).trans (by kernel_rfl)
noncomputable def E_laws_heldProblemSL1 : List DC → Out := fun v1 =>
 if (decide ((v1.getD 2 d0).ii < (((v1.getD 0 d0).ll).length : Int))) = true then
 Out.andThenB (if 102 = 102 ∧ 0 ≤ (v1.getD 2 d0).ii ∧ (v1.getD 2 d0).ii < (((v1.getD 0 d0).ll).length : Int) then
 if (((((v1.getD 0 d0).ll).getD ((v1.getD 2 d0).ii).toNat []).getD 0 d0).ii != (v1.getD 1 d0).ii) = true then
 .ret [.i (-1 : Int)]
 else
 if 102 = 102 ∧ 0 ≤ (v1.getD 2 d0).ii ∧ (v1.getD 2 d0).ii < (((v1.getD 0 d0).ll).length : Int) then
 (r_laws_markText [.i (IntKind.i64.wrap ((v1.getD 1 d0).ii + (1 : Int)))]).bindR fun r2 =>
 if (!(((((v1.getD 0 d0).ll).getD ((v1.getD 2 d0).ii).toNat []).getD 1 d0).ss == (r2.getD 0 d0).ss)) = true then
 .ret [.i (-1 : Int)]
 else
 if 102 = 102 ∧ 0 ≤ (v1.getD 2 d0).ii ∧ (v1.getD 2 d0).ii < (((v1.getD 0 d0).ll).length : Int) then
 (r_laws_markText [.i (IntKind.i64.wrap ((IntKind.i64.wrap ((v1.getD 1 d0).ii + (1 : Int))) + (1 : Int)))]).bindR fun r3 =>
 if (!(((((v1.getD 0 d0).ll).getD ((v1.getD 2 d0).ii).toNat []).getD 2 d0).ss == (r3.getD 0 d0).ss)) = true then
 .ret [.i (-1 : Int)]
 else
 .norm [.sl ((v1.getD 0 d0).ll), .i (IntKind.i64.wrap ((IntKind.i64.wrap ((IntKind.i64.wrap ((v1.getD 1 d0).ii + (1 : Int))) + (1 : Int))) + (1 : Int))), .i ((v1.getD 2 d0).ii)]
 else
 .fail
 else
 .fail
 else
 .fail) 1 fun v4 =>
 .norm [.sl ((v4.getD 0 d0).ll), .i ((v4.getD 1 d0).ii), .i (IntKind.i64.wrap ((v4.getD 2 d0).ii + (1 : Int)))]
 else
 .ex 0 [.i ((v1.getD 1 d0).ii)]
noncomputable def E_laws_heldProblemS (a : List DC) : Out :=
 Out.andThenB (Loop E_laws_heldProblemSL1 [.sl ((a.getD 0 d0).ll), .i ((a.getD 1 d0).ii), .i (0 : Int)]) 0 fun v5 =>
 .ret [.i ((v5.getD 0 d0).ii)]
theorem eq_laws_heldProblemS a : r_laws_heldProblemS a = E_laws_heldProblemS a := (Run_eq cfg 30 _ a).trans (by kernel_rfl)
noncomputable def E_laws_szItemSL1 : List DC → Out := fun v1 =>
 if (decide ((v1.getD 2 d0).ii < (((v1.getD 0 d0).ll).length : Int))) = true then
 Out.andThenB (if 172 = 172 ∧ 0 ≤ (v1.getD 2 d0).ii ∧ (v1.getD 2 d0).ii < (((v1.getD 0 d0).ll).length : Int) then
 (r_laws_szItem [.i (((((v1.getD 0 d0).ll).getD ((v1.getD 2 d0).ii).toNat []).getD 0 d0).ii), .i (((((v1.getD 0 d0).ll).getD ((v1.getD 2 d0).ii).toNat []).getD 1 d0).ii), .s (((((v1.getD 0 d0).ll).getD ((v1.getD 2 d0).ii).toNat []).getD 2 d0).ss), .sl (((((v1.getD 0 d0).ll).getD ((v1.getD 2 d0).ii).toNat []).getD 3 d0).ll), .sl (((((v1.getD 0 d0).ll).getD ((v1.getD 2 d0).ii).toNat []).getD 4 d0).ll), .sl (((((v1.getD 0 d0).ll).getD ((v1.getD 2 d0).ii).toNat []).getD 5 d0).ll), .s (((((v1.getD 0 d0).ll).getD ((v1.getD 2 d0).ii).toNat []).getD 6 d0).ss), .s (((((v1.getD 0 d0).ll).getD ((v1.getD 2 d0).ii).toNat []).getD 7 d0).ss), .sl (((((v1.getD 0 d0).ll).getD ((v1.getD 2 d0).ii).toNat []).getD 8 d0).ll), .sl (((((v1.getD 0 d0).ll).getD ((v1.getD 2 d0).ii).toNat []).getD 9 d0).ll), .i (((((v1.getD 0 d0).ll).getD ((v1.getD 2 d0).ii).toNat []).getD 10 d0).ii), .b (((((v1.getD 0 d0).ll).getD ((v1.getD 2 d0).ii).toNat []).getD 11 d0).bb), .s (((((v1.getD 0 d0).ll).getD ((v1.getD 2 d0).ii).toNat []).getD 12 d0).ss), .s (((((v1.getD 0 d0).ll).getD ((v1.getD 2 d0).ii).toNat []).getD 13 d0).ss), .sl (((((v1.getD 0 d0).ll).getD ((v1.getD 2 d0).ii).toNat []).getD 14 d0).ll), .sl (((((v1.getD 0 d0).ll).getD ((v1.getD 2 d0).ii).toNat []).getD 15 d0).ll), .sl (((((v1.getD 0 d0).ll).getD ((v1.getD 2 d0).ii).toNat []).getD 16 d0).ll), .sl (((((v1.getD 0 d0).ll).getD ((v1.getD 2 d0).ii).toNat []).getD 17 d0).ll), .sl (((((v1.getD 0 d0).ll).getD ((v1.getD 2 d0).ii).toNat []).getD 18 d0).ll), .b (((((v1.getD 0 d0).ll).getD ((v1.getD 2 d0).ii).toNat []).getD 19 d0).bb), .sl (((((v1.getD 0 d0).ll).getD ((v1.getD 2 d0).ii).toNat []).getD 20 d0).ll), .i ((v1.getD 1 d0).ii)]).bindR fun r2 =>
 if (decide ((r2.getD 0 d0).ii < (0 : Int))) = true then
 .ret [.i (-1 : Int)]
 else
 .norm [.sl ((v1.getD 0 d0).ll), .i ((r2.getD 0 d0).ii), .i ((v1.getD 2 d0).ii)]
 else
 .fail) 1 fun v3 =>
 .norm [.sl ((v3.getD 0 d0).ll), .i ((v3.getD 1 d0).ii), .i (IntKind.i64.wrap ((v3.getD 2 d0).ii + (1 : Int)))]
 else
 .ex 0 [.i ((v1.getD 1 d0).ii)]
noncomputable def E_laws_szItemS (a : List DC) : Out :=
 if (decide ((IntKind.i64.wrap ((a.getD 1 d0).ii - (((a.getD 0 d0).ll).length : Int))) < (0 : Int))) = true then
 .ret [.i (-1 : Int)]
 else
 Out.andThenB (Loop E_laws_szItemSL1 [.sl ((a.getD 0 d0).ll), .i (IntKind.i64.wrap ((a.getD 1 d0).ii - (((a.getD 0 d0).ll).length : Int))), .i (0 : Int)]) 0 fun v4 =>
 .ret [.i ((v4.getD 0 d0).ii)]
theorem eq_laws_szItemS a : r_laws_szItemS a = E_laws_szItemS a := (Run_eq cfg 79 _ a).trans (by kernel_rfl)
noncomputable def E_laws_toItemSL1 : List DC → Out := fun v1 =>
 if (decide ((v1.getD 2 d0).ii < (((v1.getD 0 d0).ll).length : Int))) = true then
 Out.andThenB (if 172 = 172 ∧ 0 ≤ (v1.getD 2 d0).ii ∧ (v1.getD 2 d0).ii < (((v1.getD 0 d0).ll).length : Int) then
 (r_laws_toItem [.i (((((v1.getD 0 d0).ll).getD ((v1.getD 2 d0).ii).toNat []).getD 0 d0).ii), .i (((((v1.getD 0 d0).ll).getD ((v1.getD 2 d0).ii).toNat []).getD 1 d0).ii), .s (((((v1.getD 0 d0).ll).getD ((v1.getD 2 d0).ii).toNat []).getD 2 d0).ss), .sl (((((v1.getD 0 d0).ll).getD ((v1.getD 2 d0).ii).toNat []).getD 3 d0).ll), .sl (((((v1.getD 0 d0).ll).getD ((v1.getD 2 d0).ii).toNat []).getD 4 d0).ll), .sl (((((v1.getD 0 d0).ll).getD ((v1.getD 2 d0).ii).toNat []).getD 5 d0).ll), .s (((((v1.getD 0 d0).ll).getD ((v1.getD 2 d0).ii).toNat []).getD 6 d0).ss), .s (((((v1.getD 0 d0).ll).getD ((v1.getD 2 d0).ii).toNat []).getD 7 d0).ss), .sl (((((v1.getD 0 d0).ll).getD ((v1.getD 2 d0).ii).toNat []).getD 8 d0).ll), .sl (((((v1.getD 0 d0).ll).getD ((v1.getD 2 d0).ii).toNat []).getD 9 d0).ll), .i (((((v1.getD 0 d0).ll).getD ((v1.getD 2 d0).ii).toNat []).getD 10 d0).ii), .b (((((v1.getD 0 d0).ll).getD ((v1.getD 2 d0).ii).toNat []).getD 11 d0).bb), .s (((((v1.getD 0 d0).ll).getD ((v1.getD 2 d0).ii).toNat []).getD 12 d0).ss), .s (((((v1.getD 0 d0).ll).getD ((v1.getD 2 d0).ii).toNat []).getD 13 d0).ss), .sl (((((v1.getD 0 d0).ll).getD ((v1.getD 2 d0).ii).toNat []).getD 14 d0).ll), .sl (((((v1.getD 0 d0).ll).getD ((v1.getD 2 d0).ii).toNat []).getD 15 d0).ll), .sl (((((v1.getD 0 d0).ll).getD ((v1.getD 2 d0).ii).toNat []).getD 16 d0).ll), .sl (((((v1.getD 0 d0).ll).getD ((v1.getD 2 d0).ii).toNat []).getD 17 d0).ll), .sl (((((v1.getD 0 d0).ll).getD ((v1.getD 2 d0).ii).toNat []).getD 18 d0).ll), .b (((((v1.getD 0 d0).ll).getD ((v1.getD 2 d0).ii).toNat []).getD 19 d0).bb), .sl (((((v1.getD 0 d0).ll).getD ((v1.getD 2 d0).ii).toNat []).getD 20 d0).ll)]).bindR fun r2 =>
 if 120 = 120 ∧ 0 ≤ (v1.getD 2 d0).ii ∧ (v1.getD 2 d0).ii < (((v1.getD 1 d0).ll).length : Int) then
 .norm [.sl ((v1.getD 0 d0).ll), .sl (((v1.getD 1 d0).ll).set (((v1.getD 2 d0).ii).toNat) (setRunD (((v1.getD 1 d0).ll).getD (((v1.getD 2 d0).ii).toNat) []) 0 [DC.i ((r2.getD 0 d0).ii), DC.i ((r2.getD 1 d0).ii), DC.s ((r2.getD 2 d0).ss), DC.sl ((r2.getD 3 d0).ll), DC.sl ((r2.getD 4 d0).ll), DC.sl ((r2.getD 5 d0).ll), DC.s ((r2.getD 6 d0).ss), DC.s ((r2.getD 7 d0).ss), DC.sl ((r2.getD 8 d0).ll), DC.sl ((r2.getD 9 d0).ll), DC.i ((r2.getD 10 d0).ii), DC.b ((r2.getD 11 d0).bb), DC.s ((r2.getD 12 d0).ss), DC.s ((r2.getD 13 d0).ss), DC.sl ((r2.getD 14 d0).ll), DC.sl ((r2.getD 15 d0).ll), DC.sl ((r2.getD 16 d0).ll), DC.sl ((r2.getD 17 d0).ll), DC.sl ((r2.getD 18 d0).ll), DC.b ((r2.getD 19 d0).bb), DC.sl ((r2.getD 20 d0).ll)])), .i ((v1.getD 2 d0).ii)]
 else
 .fail
 else
 .fail) 1 fun v3 =>
 .norm [.sl ((v3.getD 0 d0).ll), .sl ((v3.getD 1 d0).ll), .i (IntKind.i64.wrap ((v3.getD 2 d0).ii + (1 : Int)))]
 else
 .ex 0 [.sl ((v1.getD 1 d0).ll)]
noncomputable def E_laws_toItemS (a : List DC) : Out :=
 if 0 ≤ (((a.getD 0 d0).ll).length : Int) ∧ (((a.getD 0 d0).ll).length : Int) < (LIM : Int) ∧ (((a.getD 0 d0).ll).length : Int) = (((a.getD 0 d0).ll).length : Int) ∧ 384 ≤ 1024 ∧ 0 < 21 ∧ dp 120 = false then
 Out.andThenB (Loop E_laws_toItemSL1 [.sl ((a.getD 0 d0).ll), .sl (List.replicate (((a.getD 0 d0).ll).length : Int).toNat [DC.i 0, DC.i 0, DC.s [], DC.sl [], DC.sl [], DC.sl [], DC.s [], DC.s [], DC.sl [], DC.sl [], DC.i 0, DC.b false, DC.s [], DC.s [], DC.sl [], DC.sl [], DC.sl [], DC.sl [], DC.sl [], DC.b false, DC.sl []]), .i (0 : Int)]) 0 fun v4 =>
 .ret [.sl ((v4.getD 0 d0).ll)]
 else
 .fail
theorem eq_laws_toItemS a : r_laws_toItemS a = E_laws_toItemS a := (Run_eq cfg 80 _ a).trans (by kernel_rfl)
noncomputable def E_spec_l13Copy (a : List DC) : Out :=
 if ([] : List (List DC)).length + ((a.getD 4 d0).ll).length < LIM then
 (r_spec_l13CopyFields [.sl ((a.getD 5 d0).ll)]).bindR fun r1 =>
 (r_spec_l13CopyIns [.sl ((a.getD 6 d0).ll)]).bindR fun r2 =>
 (r_spec_l13CopyValues [.sl ((a.getD 7 d0).ll)]).bindR fun r3 =>
 if ([] : List (List DC)).length + ((a.getD 8 d0).ll).length < LIM then
 (r_spec_l10Dirs [.sl ((a.getD 10 d0).ll)]).bindR fun r4 =>
 .ret [.i ((a.getD 0 d0).ii), .b ((a.getD 1 d0).bb), .s ((a.getD 2 d0).ss), .s ((a.getD 3 d0).ss), .sl (([] : List (List DC)) ++ ((a.getD 4 d0).ll)), .sl ((r1.getD 0 d0).ll), .sl ((r2.getD 0 d0).ll), .sl ((r3.getD 0 d0).ll), .sl (([] : List (List DC)) ++ ((a.getD 8 d0).ll)), .b ((a.getD 9 d0).bb), .sl ((r4.getD 0 d0).ll)]
 else
 .fail
 else
 .fail
theorem eq_spec_l13Copy a : r_spec_l13Copy a = E_spec_l13Copy a := (Run_eq cfg 53 _ a).trans (by kernel_rfl)
noncomputable def E_impl_cloneDef (a : List DC) : Out :=
 (r_slices_Clone_string [.sl ((a.getD 4 d0).ll)]).bindR fun r1 =>
 (r_impl_cloneFields [.sl ((a.getD 5 d0).ll)]).bindR fun r2 =>
 (r_impl_cloneIns [.sl ((a.getD 6 d0).ll)]).bindR fun r3 =>
 (r_impl_cloneEnums [.sl ((a.getD 7 d0).ll)]).bindR fun r4 =>
 (r_slices_Clone_impl_Root [.sl ((a.getD 8 d0).ll)]).bindR fun r5 =>
 (r_impl_cloneDirs [.sl ((a.getD 10 d0).ll)]).bindR fun r6 =>
 .ret [.i ((a.getD 0 d0).ii), .b ((a.getD 1 d0).bb), .s ((a.getD 2 d0).ss), .s ((a.getD 3 d0).ss), .sl ((r1.getD 0 d0).ll), .sl ((r2.getD 0 d0).ll), .sl ((r3.getD 0 d0).ll), .sl ((r4.getD 0 d0).ll), .sl ((r5.getD 0 d0).ll), .b ((a.getD 9 d0).bb), .sl ((r6.getD 0 d0).ll)]
theorem eq_impl_cloneDef a : r_impl_cloneDef a = E_impl_cloneDef a := (Run_eq cfg 55 _ a).trans (by kernel_rfl)
noncomputable def E_laws_eqDef (a : List DC) : Out :=
 if ((a.getD 0 d0).ii != (a.getD 11 d0).ii) = true then
 .ret [.b false]
 else
 if (!((a.getD 1 d0).bb == (a.getD 12 d0).bb)) = true then
 .ret [.b false]
 else
 if (!((a.getD 2 d0).ss == (a.getD 13 d0).ss)) = true then
 .ret [.b false]
 else
 if (!((a.getD 3 d0).ss == (a.getD 14 d0).ss)) = true then
 .ret [.b false]
 else
 (r_laws_eqStringS [.sl ((a.getD 4 d0).ll), .sl ((a.getD 15 d0).ll)]).bindR fun r1 =>
 if (!((r1.getD 0 d0).bb)) = true then
 .ret [.b false]
 else
 (r_laws_eqFieldDefS [.sl ((a.getD 5 d0).ll), .sl ((a.getD 16 d0).ll)]).bindR fun r2 =>
 if (!((r2.getD 0 d0).bb)) = true then
 .ret [.b false]
 else
 (r_laws_eqInDefS [.sl ((a.getD 6 d0).ll), .sl ((a.getD 17 d0).ll)]).bindR fun r3 =>
 if (!((r3.getD 0 d0).bb)) = true then
 .ret [.b false]
 else
 (r_laws_eqEnumDefS [.sl ((a.getD 7 d0).ll), .sl ((a.getD 18 d0).ll)]).bindR fun r4 =>
 if (!((r4.getD 0 d0).bb)) = true then
 .ret [.b false]
 else
 (r_laws_eqRootS [.sl ((a.getD 8 d0).ll), .sl ((a.getD 19 d0).ll)]).bindR fun r5 =>
 if (!((r5.getD 0 d0).bb)) = true then
 .ret [.b false]
 else
 if (!((a.getD 9 d0).bb == (a.getD 20 d0).bb)) = true then
 .ret [.b false]
 else
 (r_laws_eqDirS [.sl ((a.getD 10 d0).ll), .sl ((a.getD 21 d0).ll)]).bindR fun r6 =>
 if (!((r6.getD 0 d0).bb)) = true then
 .ret [.b false]
 else
 .ret [.b true]
theorem eq_laws_eqDef a : r_laws_eqDef a = E_laws_eqDef a := (Run_eq cfg 18 _ a).trans (by kernel_rfl)
noncomputable def E_laws_eqProblem (a : List DC) : Out :=
 if ((a.getD 0 d0).ii != (a.getD 3 d0).ii) = true then
 .ret [.b false]
 else
 if (!((a.getD 1 d0).ss == (a.getD 4 d0).ss)) = true then
 .ret [.b false]
 else
 if (!((a.getD 2 d0).ss == (a.getD 5 d0).ss)) = true then
 .ret [.b false]
 else
 .ret [.b true]
theorem eq_laws_eqProblem a : r_laws_eqProblem a = E_laws_eqProblem a := (Run_eq cfg 77 _ a).trans (by kernel_rfl)
noncomputable def E_laws_eqItemSL1 : List DC → Out := fun v1 =>
 if (decide ((v1.getD 2 d0).ii < (((v1.getD 0 d0).ll).length : Int))) = true then
 Out.andThenB (if 120 = 120 ∧ 0 ≤ (v1.getD 2 d0).ii ∧ (v1.getD 2 d0).ii < (((v1.getD 0 d0).ll).length : Int) then
 if 120 = 120 ∧ 0 ≤ (v1.getD 2 d0).ii ∧ (v1.getD 2 d0).ii < (((v1.getD 1 d0).ll).length : Int) then
 (r_laws_eqItem [.i (((((v1.getD 0 d0).ll).getD ((v1.getD 2 d0).ii).toNat []).getD 0 d0).ii), .i (((((v1.getD 0 d0).ll).getD ((v1.getD 2 d0).ii).toNat []).getD 1 d0).ii), .s (((((v1.getD 0 d0).ll).getD ((v1.getD 2 d0).ii).toNat []).getD 2 d0).ss), .sl (((((v1.getD 0 d0).ll).getD ((v1.getD 2 d0).ii).toNat []).getD 3 d0).ll), .sl (((((v1.getD 0 d0).ll).getD ((v1.getD 2 d0).ii).toNat []).getD 4 d0).ll), .sl (((((v1.getD 0 d0).ll).getD ((v1.getD 2 d0).ii).toNat []).getD 5 d0).ll), .s (((((v1.getD 0 d0).ll).getD ((v1.getD 2 d0).ii).toNat []).getD 6 d0).ss), .s (((((v1.getD 0 d0).ll).getD ((v1.getD 2 d0).ii).toNat []).getD 7 d0).ss), .sl (((((v1.getD 0 d0).ll).getD ((v1.getD 2 d0).ii).toNat []).getD 8 d0).ll), .sl (((((v1.getD 0 d0).ll).getD ((v1.getD 2 d0).ii).toNat []).getD 9 d0).ll), .i (((((v1.getD 0 d0).ll).getD ((v1.getD 2 d0).ii).toNat []).getD 10 d0).ii), .b (((((v1.getD 0 d0).ll).getD ((v1.getD 2 d0).ii).toNat []).getD 11 d0).bb), .s (((((v1.getD 0 d0).ll).getD ((v1.getD 2 d0).ii).toNat []).getD 12 d0).ss), .s (((((v1.getD 0 d0).ll).getD ((v1.getD 2 d0).ii).toNat []).getD 13 d0).ss), .sl (((((v1.getD 0 d0).ll).getD ((v1.getD 2 d0).ii).toNat []).getD 14 d0).ll), .sl (((((v1.getD 0 d0).ll).getD ((v1.getD 2 d0).ii).toNat []).getD 15 d0).ll), .sl (((((v1.getD 0 d0).ll).getD ((v1.getD 2 d0).ii).toNat []).getD 16 d0).ll), .sl (((((v1.getD 0 d0).ll).getD ((v1.getD 2 d0).ii).toNat []).getD 17 d0).ll), .sl (((((v1.getD 0 d0).ll).getD ((v1.getD 2 d0).ii).toNat []).getD 18 d0).ll), .b (((((v1.getD 0 d0).ll).getD ((v1.getD 2 d0).ii).toNat []).getD 19 d0).bb), .sl (((((v1.getD 0 d0).ll).getD ((v1.getD 2 d0).ii).toNat []).getD 20 d0).ll), .i (((((v1.getD 1 d0).ll).getD ((v1.getD 2 d0).ii).toNat []).getD 0 d0).ii), .i (((((v1.getD 1 d0).ll).getD ((v1.getD 2 d0).ii).toNat []).getD 1 d0).ii), .s (((((v1.getD 1 d0).ll).getD ((v1.getD 2 d0).ii).toNat []).getD 2 d0).ss), .sl (((((v1.getD 1 d0).ll).getD ((v1.getD 2 d0).ii).toNat []).getD 3 d0).ll), .sl (((((v1.getD 1 d0).ll).getD ((v1.getD 2 d0).ii).toNat []).getD 4 d0).ll), .sl (((((v1.getD 1 d0).ll).getD ((v1.getD 2 d0).ii).toNat []).getD 5 d0).ll), .s (((((v1.getD 1 d0).ll).getD ((v1.getD 2 d0).ii).toNat []).getD 6 d0).ss), .s (((((v1.getD 1 d0).ll).getD ((v1.getD 2 d0).ii).toNat []).getD 7 d0).ss), .sl (((((v1.getD 1 d0).ll).getD ((v1.getD 2 d0).ii).toNat []).getD 8 d0).ll), .sl (((((v1.getD 1 d0).ll).getD ((v1.getD 2 d0).ii).toNat []).getD 9 d0).ll), .i (((((v1.getD 1 d0).ll).getD ((v1.getD 2 d0).ii).toNat []).getD 10 d0).ii), .b (((((v1.getD 1 d0).ll).getD ((v1.getD 2 d0).ii).toNat []).getD 11 d0).bb), .s (((((v1.getD 1 d0).ll).getD ((v1.getD 2 d0).ii).toNat []).getD 12 d0).ss), .s (((((v1.getD 1 d0).ll).getD ((v1.getD 2 d0).ii).toNat []).getD 13 d0).ss), .sl (((((v1.getD 1 d0).ll).getD ((v1.getD 2 d0).ii).toNat []).getD 14 d0).ll), .sl (((((v1.getD 1 d0).ll).getD ((v1.getD 2 d0).ii).toNat []).getD 15 d0).ll), .sl (((((v1.getD 1 d0).ll).getD ((v1.getD 2 d0).ii).toNat []).getD 16 d0).ll), .sl (((((v1.getD 1 d0).ll).getD ((v1.getD 2 d0).ii).toNat []).getD 17 d0).ll), .sl (((((v1.getD 1 d0).ll).getD ((v1.getD 2 d0).ii).toNat []).getD 18 d0).ll), .b (((((v1.getD 1 d0).ll).getD ((v1.getD 2 d0).ii).toNat []).getD 19 d0).bb), .sl (((((v1.getD 1 d0).ll).getD ((v1.getD 2 d0).ii).toNat []).getD 20 d0).ll)]).bindR fun r2 =>
 if (!((r2.getD 0 d0).bb)) = true then
 .ret [.b false]
 else
 .norm [.sl ((v1.getD 0 d0).ll), .sl ((v1.getD 1 d0).ll), .i ((v1.getD 2 d0).ii)]
 else
 .fail
 else
 .fail) 1 fun v3 =>
 .norm [.sl ((v3.getD 0 d0).ll), .sl ((v3.getD 1 d0).ll), .i (IntKind.i64.wrap ((v3.getD 2 d0).ii + (1 : Int)))]
 else
 .ex 0 []
noncomputable def E_laws_eqItemS (a : List DC) : Out :=
 if ((((a.getD 0 d0).ll).length : Int) != (((a.getD 1 d0).ll).length : Int)) = true then
 .ret [.b false]
 else
 Out.andThenB (Loop E_laws_eqItemSL1 [.sl ((a.getD 0 d0).ll), .sl ((a.getD 1 d0).ll), .i (0 : Int)]) 0 fun v4 =>
 .ret [.b true]
theorem eq_laws_eqItemS a : r_laws_eqItemS a = E_laws_eqItemS a := (Run_eq cfg 81 _ a).trans (by kernel_rfl)
theorem eq_laws_markText a : r_laws_markText a = E_laws_markText a := (Run_eq cfg 78 _ a).trans (by kernel_rfl)
noncomputable def E_laws_heldStringSL1 : List DC → Out := fun v1 =>
 if (decide ((v1.getD 2 d0).ii < (((v1.getD 0 d0).ll).length : Int))) = true then
 Out.andThenB (if 9 = 9 ∧ 0 ≤ (v1.getD 2 d0).ii ∧ (v1.getD 2 d0).ii < (((v1.getD 0 d0).ll).length : Int) then
 (r_laws_markText [.i ((v1.getD 1 d0).ii)]).bindR fun r2 =>
 if (!(((((v1.getD 0 d0).ll).getD ((v1.getD 2 d0).ii).toNat []).getD 0 d0).ss == (r2.getD 0 d0).ss)) = true then
 .ret [.i (-1 : Int)]
 else
 .norm [.sl ((v1.getD 0 d0).ll), .i (IntKind.i64.wrap ((v1.getD 1 d0).ii + (1 : Int))), .i ((v1.getD 2 d0).ii)]
 else
 .fail) 1 fun v3 =>
 .norm [.sl ((v3.getD 0 d0).ll), .i ((v3.getD 1 d0).ii), .i (IntKind.i64.wrap ((v3.getD 2 d0).ii + (1 : Int)))]
 else
 .ex 0 [.i ((v1.getD 1 d0).ii)]
noncomputable def E_laws_heldStringS (a : List DC) : Out :=
 Out.andThenB (Loop E_laws_heldStringSL1 [.sl ((a.getD 0 d0).ll), .i ((a.getD 1 d0).ii), .i (0 : Int)]) 0 fun v4 =>
 .ret [.i ((v4.getD 0 d0).ii)]
theorem eq_laws_heldStringS a : r_laws_heldStringS a = E_laws_heldStringS a := (Run_eq cfg 62 _ a).trans (by kernel_rfl)
noncomputable def E_laws_heldFieldDefSL1 : List DC → Out := fun v1 =>
 if (decide ((v1.getD 2 d0).ii < (((v1.getD 0 d0).ll).length : Int))) = true then
 Out.andThenB (if 32 = 32 ∧ 0 ≤ (v1.getD 2 d0).ii ∧ (v1.getD 2 d0).ii < (((v1.getD 0 d0).ll).length : Int) then
 (r_laws_markText [.i ((v1.getD 1 d0).ii)]).bindR fun r2 =>
 if (!(((((v1.getD 0 d0).ll).getD ((v1.getD 2 d0).ii).toNat []).getD 0 d0).ss == (r2.getD 0 d0).ss)) = true then
 .ret [.i (-1 : Int)]
 else
 if 32 = 32 ∧ 0 ≤ (v1.getD 2 d0).ii ∧ (v1.getD 2 d0).ii < (((v1.getD 0 d0).ll).length : Int) then
 (r_laws_markText [.i (IntKind.i64.wrap ((v1.getD 1 d0).ii + (1 : Int)))]).bindR fun r3 =>
 if (!(((((v1.getD 0 d0).ll).getD ((v1.getD 2 d0).ii).toNat []).getD 1 d0).ss == (r3.getD 0 d0).ss)) = true then
 .ret [.i (-1 : Int)]
 else
 if 32 = 32 ∧ 0 ≤ (v1.getD 2 d0).ii ∧ (v1.getD 2 d0).ii < (((v1.getD 0 d0).ll).length : Int) then
 (r_laws_heldInDefS [.sl (((((v1.getD 0 d0).ll).getD ((v1.getD 2 d0).ii).toNat []).getD 2 d0).ll), .i (IntKind.i64.wrap ((IntKind.i64.wrap ((v1.getD 1 d0).ii + (1 : Int))) + (1 : Int)))]).bindR fun r4 =>
 if (decide ((r4.getD 0 d0).ii < (0 : Int))) = true then
 .ret [.i (-1 : Int)]
 else
 if 32 = 32 ∧ 0 ≤ (v1.getD 2 d0).ii ∧ (v1.getD 2 d0).ii < (((v1.getD 0 d0).ll).length : Int) then
 (r_laws_markText [.i ((r4.getD 0 d0).ii)]).bindR fun r5 =>
 if (!(((((v1.getD 0 d0).ll).getD ((v1.getD 2 d0).ii).toNat []).getD 3 d0).ss == (r5.getD 0 d0).ss)) = true then
 .ret [.i (-1 : Int)]
 else
 if 32 = 32 ∧ 0 ≤ (v1.getD 2 d0).ii ∧ (v1.getD 2 d0).ii < (((v1.getD 0 d0).ll).length : Int) then
 (r_laws_markText [.i (IntKind.i64.wrap ((r4.getD 0 d0).ii + (1 : Int)))]).bindR fun r6 =>
 if (!(((((v1.getD 0 d0).ll).getD ((v1.getD 2 d0).ii).toNat []).getD 4 d0).ss == (r6.getD 0 d0).ss)) = true then
 .ret [.i (-1 : Int)]
 else
 if 32 = 32 ∧ 0 ≤ (v1.getD 2 d0).ii ∧ (v1.getD 2 d0).ii < (((v1.getD 0 d0).ll).length : Int) then
 (r_laws_heldDirS [.sl (((((v1.getD 0 d0).ll).getD ((v1.getD 2 d0).ii).toNat []).getD 5 d0).ll), .i (IntKind.i64.wrap ((IntKind.i64.wrap ((r4.getD 0 d0).ii + (1 : Int))) + (1 : Int)))]).bindR fun r7 =>
 if (decide ((r7.getD 0 d0).ii < (0 : Int))) = true then
 .ret [.i (-1 : Int)]
 else
 .norm [.sl ((v1.getD 0 d0).ll), .i ((r7.getD 0 d0).ii), .i ((v1.getD 2 d0).ii)]
 else
 .fail
 else
 .fail
 else
 .fail
 else
 .fail
 else
 .fail
 else
 .fail) 1 fun v8 =>
 .norm [.sl ((v8.getD 0 d0).ll), .i ((v8.getD 1 d0).ii), .i (IntKind.i64.wrap ((v8.getD 2 d0).ii + (1 : Int)))]
 else
 .ex 0 [.i ((v1.getD 1 d0).ii)]
noncomputable def E_laws_heldFieldDefS (a : List DC) : Out :=
 Out.andThenB (Loop E_laws_heldFieldDefSL1 [.sl ((a.getD 0 d0).ll), .i ((a.getD 1 d0).ii), .i (0 : Int)]) 0 fun v9 =>
 .ret [.i ((v9.getD 0 d0).ii)]
theorem eq_laws_heldFieldDefS a : r_laws_heldFieldDefS a = E_laws_heldFieldDefS a := (Run_eq cfg 63 _ a).trans (by kernel_rfl)
noncomputable def E_laws_heldInDefSL1 : List DC → Out := fun v1 =>
 if (decide ((v1.getD 2 d0).ii < (((v1.getD 0 d0).ll).length : Int))) = true then
 Out.andThenB (if 139 = 139 ∧ 0 ≤ (v1.getD 2 d0).ii ∧ (v1.getD 2 d0).ii < (((v1.getD 0 d0).ll).length : Int) then
 (r_laws_markText [.i ((v1.getD 1 d0).ii)]).bindR fun r2 =>
 if (!(((((v1.getD 0 d0).ll).getD ((v1.getD 2 d0).ii).toNat []).getD 0 d0).ss == (r2.getD 0 d0).ss)) = true then
 .ret [.i (-1 : Int)]
 else
 if 139 = 139 ∧ 0 ≤ (v1.getD 2 d0).ii ∧ (v1.getD 2 d0).ii < (((v1.getD 0 d0).ll).length : Int) then
 (r_laws_markText [.i (IntKind.i64.wrap ((v1.getD 1 d0).ii + (1 : Int)))]).bindR fun r3 =>
 if (!(((((v1.getD 0 d0).ll).getD ((v1.getD 2 d0).ii).toNat []).getD 1 d0).ss == (r3.getD 0 d0).ss)) = true then
 .ret [.i (-1 : Int)]
 else
 if 139 = 139 ∧ 0 ≤ (v1.getD 2 d0).ii ∧ (v1.getD 2 d0).ii < (((v1.getD 0 d0).ll).length : Int) then
 (r_laws_markText [.i (IntKind.i64.wrap ((IntKind.i64.wrap ((v1.getD 1 d0).ii + (1 : Int))) + (1 : Int)))]).bindR fun r4 =>
 if (!(((((v1.getD 0 d0).ll).getD ((v1.getD 2 d0).ii).toNat []).getD 2 d0).ss == (r4.getD 0 d0).ss)) = true then
 .ret [.i (-1 : Int)]
 else
 if 139 = 139 ∧ 0 ≤ (v1.getD 2 d0).ii ∧ (v1.getD 2 d0).ii < (((v1.getD 0 d0).ll).length : Int) then
 (r_laws_markText [.i (IntKind.i64.wrap ((IntKind.i64.wrap ((IntKind.i64.wrap ((v1.getD 1 d0).ii + (1 : Int))) + (1 : Int))) + (1 : Int)))]).bindR fun r5 =>
 if (!(((((v1.getD 0 d0).ll).getD ((v1.getD 2 d0).ii).toNat []).getD 3 d0).ss == (r5.getD 0 d0).ss)) = true then
 .ret [.i (-1 : Int)]
 else
 if 139 = 139 ∧ 0 ≤ (v1.getD 2 d0).ii ∧ (v1.getD 2 d0).ii < (((v1.getD 0 d0).ll).length : Int) then
 if (3 : Int) = 0 then
 .fail
 else
 if (!(((((v1.getD 0 d0).ll).getD ((v1.getD 2 d0).ii).toNat []).getD 4 d0).bb == (((IntKind.i64.wrap ((IntKind.i64.wrap ((IntKind.i64.wrap ((IntKind.i64.wrap ((v1.getD 1 d0).ii + (1 : Int))) + (1 : Int))) + (1 : Int))) + (1 : Int))).tmod (3 : Int)) == (0 : Int)))) = true then
 .ret [.i (-1 : Int)]
 else
 if 139 = 139 ∧ 0 ≤ (v1.getD 2 d0).ii ∧ (v1.getD 2 d0).ii < (((v1.getD 0 d0).ll).length : Int) then
 if (((((v1.getD 0 d0).ll).getD ((v1.getD 2 d0).ii).toNat []).getD 5 d0).ii != (IntKind.i64.wrap ((IntKind.i64.wrap ((IntKind.i64.wrap ((IntKind.i64.wrap ((IntKind.i64.wrap ((v1.getD 1 d0).ii + (1 : Int))) + (1 : Int))) + (1 : Int))) + (1 : Int))) + (1 : Int)))) = true then
 .ret [.i (-1 : Int)]
 else
 if 139 = 139 ∧ 0 ≤ (v1.getD 2 d0).ii ∧ (v1.getD 2 d0).ii < (((v1.getD 0 d0).ll).length : Int) then
 (r_laws_markText [.i (IntKind.i64.wrap ((IntKind.i64.wrap ((IntKind.i64.wrap ((IntKind.i64.wrap ((IntKind.i64.wrap ((IntKind.i64.wrap ((v1.getD 1 d0).ii + (1 : Int))) + (1 : Int))) + (1 : Int))) + (1 : Int))) + (1 : Int))) + (1 : Int)))]).bindR fun r6 =>
 if (!(((((v1.getD 0 d0).ll).getD ((v1.getD 2 d0).ii).toNat []).getD 6 d0).ss == (r6.getD 0 d0).ss)) = true then
 .ret [.i (-1 : Int)]
 else
 if 139 = 139 ∧ 0 ≤ (v1.getD 2 d0).ii ∧ (v1.getD 2 d0).ii < (((v1.getD 0 d0).ll).length : Int) then
 (r_laws_heldValueS [.sl (((((v1.getD 0 d0).ll).getD ((v1.getD 2 d0).ii).toNat []).getD 7 d0).ll), .i (IntKind.i64.wrap ((IntKind.i64.wrap ((IntKind.i64.wrap ((IntKind.i64.wrap ((IntKind.i64.wrap ((IntKind.i64.wrap ((IntKind.i64.wrap ((v1.getD 1 d0).ii + (1 : Int))) + (1 : Int))) + (1 : Int))) + (1 : Int))) + (1 : Int))) + (1 : Int))) + (1 : Int)))]).bindR fun r7 =>
 if (decide ((r7.getD 0 d0).ii < (0 : Int))) = true then
 .ret [.i (-1 : Int)]
 else
 if 139 = 139 ∧ 0 ≤ (v1.getD 2 d0).ii ∧ (v1.getD 2 d0).ii < (((v1.getD 0 d0).ll).length : Int) then
 (r_laws_heldStringS [.sl (((((v1.getD 0 d0).ll).getD ((v1.getD 2 d0).ii).toNat []).getD 8 d0).ll), .i ((r7.getD 0 d0).ii)]).bindR fun r8 =>
 if (decide ((r8.getD 0 d0).ii < (0 : Int))) = true then
 .ret [.i (-1 : Int)]
 else
 if 139 = 139 ∧ 0 ≤ (v1.getD 2 d0).ii ∧ (v1.getD 2 d0).ii < (((v1.getD 0 d0).ll).length : Int) then
 (r_laws_heldDirS [.sl (((((v1.getD 0 d0).ll).getD ((v1.getD 2 d0).ii).toNat []).getD 9 d0).ll), .i ((r8.getD 0 d0).ii)]).bindR fun r9 =>
 if (decide ((r9.getD 0 d0).ii < (0 : Int))) = true then
 .ret [.i (-1 : Int)]
 else
 .norm [.sl ((v1.getD 0 d0).ll), .i ((r9.getD 0 d0).ii), .i ((v1.getD 2 d0).ii)]
 else
 .fail
 else
 .fail
 else
 .fail
 else
 .fail
 else
 .fail
 else
 .fail
 else
 .fail
 else
 .fail
 else
 .fail
 else
 .fail) 1 fun v10 =>
 .norm [.sl ((v10.getD 0 d0).ll), .i ((v10.getD 1 d0).ii), .i (IntKind.i64.wrap ((v10.getD 2 d0).ii + (1 : Int)))]
 else
 .ex 0 [.i ((v1.getD 1 d0).ii)]
noncomputable def E_laws_heldInDefS (a : List DC) : Out :=
 Out.andThenB (Loop E_laws_heldInDefSL1 [.sl ((a.getD 0 d0).ll), .i ((a.getD 1 d0).ii), .i (0 : Int)]) 0 fun v11 =>
 .ret [.i ((v11.getD 0 d0).ii)]
theorem eq_laws_heldInDefS a : r_laws_heldInDefS a = E_laws_heldInDefS a := (Run_eq cfg 50 _ a).trans (by kernel_rfl)
noncomputable def E_laws_heldEnumDefSL1 : List DC → Out := fun v1 =>
 if (decide ((v1.getD 2 d0).ii < (((v1.getD 0 d0).ll).length : Int))) = true then
 Out.andThenB (if 154 = 154 ∧ 0 ≤ (v1.getD 2 d0).ii ∧ (v1.getD 2 d0).ii < (((v1.getD 0 d0).ll).length : Int) then
 (r_laws_markText [.i ((v1.getD 1 d0).ii)]).bindR fun r2 =>
 if (!(((((v1.getD 0 d0).ll).getD ((v1.getD 2 d0).ii).toNat []).getD 0 d0).ss == (r2.getD 0 d0).ss)) = true then
 .ret [.i (-1 : Int)]
 else
 if 154 = 154 ∧ 0 ≤ (v1.getD 2 d0).ii ∧ (v1.getD 2 d0).ii < (((v1.getD 0 d0).ll).length : Int) then
 (r_laws_markText [.i (IntKind.i64.wrap ((v1.getD 1 d0).ii + (1 : Int)))]).bindR fun r3 =>
 if (!(((((v1.getD 0 d0).ll).getD ((v1.getD 2 d0).ii).toNat []).getD 1 d0).ss == (r3.getD 0 d0).ss)) = true then
 .ret [.i (-1 : Int)]
 else
 if 154 = 154 ∧ 0 ≤ (v1.getD 2 d0).ii ∧ (v1.getD 2 d0).ii < (((v1.getD 0 d0).ll).length : Int) then
 (r_laws_heldDirS [.sl (((((v1.getD 0 d0).ll).getD ((v1.getD 2 d0).ii).toNat []).getD 2 d0).ll), .i (IntKind.i64.wrap ((IntKind.i64.wrap ((v1.getD 1 d0).ii + (1 : Int))) + (1 : Int)))]).bindR fun r4 =>
 if (decide ((r4.getD 0 d0).ii < (0 : Int))) = true then
 .ret [.i (-1 : Int)]
 else
 .norm [.sl ((v1.getD 0 d0).ll), .i ((r4.getD 0 d0).ii), .i ((v1.getD 2 d0).ii)]
 else
 .fail
 else
 .fail
 else
 .fail) 1 fun v5 =>
 .norm [.sl ((v5.getD 0 d0).ll), .i ((v5.getD 1 d0).ii), .i (IntKind.i64.wrap ((v5.getD 2 d0).ii + (1 : Int)))]
 else
 .ex 0 [.i ((v1.getD 1 d0).ii)]
noncomputable def E_laws_heldEnumDefS (a : List DC) : Out :=
 Out.andThenB (Loop E_laws_heldEnumDefSL1 [.sl ((a.getD 0 d0).ll), .i ((a.getD 1 d0).ii), .i (0 : Int)]) 0 fun v6 =>
 .ret [.i ((v6.getD 0 d0).ii)]
theorem eq_laws_heldEnumDefS a : r_laws_heldEnumDefS a = E_laws_heldEnumDefS a := (Run_eq cfg 64 _ a).trans (by kernel_rfl)
noncomputable def E_laws_heldRootSL1 : List DC → Out := fun v1 =>
 if (decide ((v1.getD 2 d0).ii < (((v1.getD 0 d0).ll).length : Int))) = true then
 Out.andThenB (if 131 = 131 ∧ 0 ≤ (v1.getD 2 d0).ii ∧ (v1.getD 2 d0).ii < (((v1.getD 0 d0).ll).length : Int) then
 if (((((v1.getD 0 d0).ll).getD ((v1.getD 2 d0).ii).toNat []).getD 0 d0).ii != (v1.getD 1 d0).ii) = true then
 .ret [.i (-1 : Int)]
 else
 if 131 = 131 ∧ 0 ≤ (v1.getD 2 d0).ii ∧ (v1.getD 2 d0).ii < (((v1.getD 0 d0).ll).length : Int) then
 (r_laws_markText [.i (IntKind.i64.wrap ((v1.getD 1 d0).ii + (1 : Int)))]).bindR fun r2 =>
 if (!(((((v1.getD 0 d0).ll).getD ((v1.getD 2 d0).ii).toNat []).getD 1 d0).ss == (r2.getD 0 d0).ss)) = true then
 .ret [.i (-1 : Int)]
 else
 .norm [.sl ((v1.getD 0 d0).ll), .i (IntKind.i64.wrap ((IntKind.i64.wrap ((v1.getD 1 d0).ii + (1 : Int))) + (1 : Int))), .i ((v1.getD 2 d0).ii)]
 else
 .fail
 else
 .fail) 1 fun v3 =>
 .norm [.sl ((v3.getD 0 d0).ll), .i ((v3.getD 1 d0).ii), .i (IntKind.i64.wrap ((v3.getD 2 d0).ii + (1 : Int)))]
 else
 .ex 0 [.i ((v1.getD 1 d0).ii)]
noncomputable def E_laws_heldRootS (a : List DC) : Out :=
 Out.andThenB (Loop E_laws_heldRootSL1 [.sl ((a.getD 0 d0).ll), .i ((a.getD 1 d0).ii), .i (0 : Int)]) 0 fun v4 =>
 .ret [.i ((v4.getD 0 d0).ii)]
theorem eq_laws_heldRootS a : r_laws_heldRootS a = E_laws_heldRootS a := (Run_eq cfg 65 _ a).trans (by kernel_rfl)
noncomputable def E_laws_heldDirSL1 : List DC → Out := fun v1 =>
 if (decide ((v1.getD 2 d0).ii < (((v1.getD 0 d0).ll).length : Int))) = true then
 Out.andThenB (if 143 = 143 ∧ 0 ≤ (v1.getD 2 d0).ii ∧ (v1.getD 2 d0).ii < (((v1.getD 0 d0).ll).length : Int) then
 (r_laws_markText [.i ((v1.getD 1 d0).ii)]).bindR fun r2 =>
 if (!(((((v1.getD 0 d0).ll).getD ((v1.getD 2 d0).ii).toNat []).getD 0 d0).ss == (r2.getD 0 d0).ss)) = true then
 .ret [.i (-1 : Int)]
 else
 if 143 = 143 ∧ 0 ≤ (v1.getD 2 d0).ii ∧ (v1.getD 2 d0).ii < (((v1.getD 0 d0).ll).length : Int) then
 (r_laws_heldArgS [.sl (((((v1.getD 0 d0).ll).getD ((v1.getD 2 d0).ii).toNat []).getD 1 d0).ll), .i (IntKind.i64.wrap ((v1.getD 1 d0).ii + (1 : Int)))]).bindR fun r3 =>
 if (decide ((r3.getD 0 d0).ii < (0 : Int))) = true then
 .ret [.i (-1 : Int)]
 else
 .norm [.sl ((v1.getD 0 d0).ll), .i ((r3.getD 0 d0).ii), .i ((v1.getD 2 d0).ii)]
 else
 .fail
 else
 .fail) 1 fun v4 =>
 .norm [.sl ((v4.getD 0 d0).ll), .i ((v4.getD 1 d0).ii), .i (IntKind.i64.wrap ((v4.getD 2 d0).ii + (1 : Int)))]
 else
 .ex 0 [.i ((v1.getD 1 d0).ii)]
noncomputable def E_laws_heldDirS (a : List DC) : Out :=
 Out.andThenB (Loop E_laws_heldDirSL1 [.sl ((a.getD 0 d0).ll), .i ((a.getD 1 d0).ii), .i (0 : Int)]) 0 fun v5 =>
 .ret [.i ((v5.getD 0 d0).ii)]
theorem eq_laws_heldDirS a : r_laws_heldDirS a = E_laws_heldDirS a := (Run_eq cfg 51 _ a).trans (by kernel_rfl)
noncomputable def E_laws_szItem (a : List DC) : Out :=
 (r_laws_szOp [.i ((a.getD 1 d0).ii), .s ((a.getD 2 d0).ss), .sl ((a.getD 3 d0).ll), .sl ((a.getD 4 d0).ll), .sl ((a.getD 5 d0).ll), .i ((a.getD 21 d0).ii)]).bindR fun r1 =>
 if (decide ((r1.getD 0 d0).ii < (0 : Int))) = true then
 .ret [.i (-1 : Int)]
 else
 (r_laws_szFrag [.s ((a.getD 6 d0).ss), .s ((a.getD 7 d0).ss), .sl ((a.getD 8 d0).ll), .sl ((a.getD 9 d0).ll), .i ((r1.getD 0 d0).ii)]).bindR fun r2 =>
 if (decide ((r2.getD 0 d0).ii < (0 : Int))) = true then
 .ret [.i (-1 : Int)]
 else
 (r_laws_szDef [.i ((a.getD 10 d0).ii), .b ((a.getD 11 d0).bb), .s ((a.getD 12 d0).ss), .s ((a.getD 13 d0).ss), .sl ((a.getD 14 d0).ll), .sl ((a.getD 15 d0).ll), .sl ((a.getD 16 d0).ll), .sl ((a.getD 17 d0).ll), .sl ((a.getD 18 d0).ll), .b ((a.getD 19 d0).bb), .sl ((a.getD 20 d0).ll), .i ((r2.getD 0 d0).ii)]).bindR fun r3 =>
 if (decide ((r3.getD 0 d0).ii < (0 : Int))) = true then
 .ret [.i (-1 : Int)]
 else
 .ret [.i ((r3.getD 0 d0).ii)]
theorem eq_laws_szItem a : r_laws_szItem a = E_laws_szItem a := (Run_eq cfg 120 _ a).trans (by kernel_rfl)
noncomputable def E_laws_toItem (a : List DC) : Out :=
 (r_laws_toOp [.i ((a.getD 1 d0).ii), .s ((a.getD 2 d0).ss), .sl ((a.getD 3 d0).ll), .sl ((a.getD 4 d0).ll), .sl ((a.getD 5 d0).ll)]).bindR fun r1 =>
 (r_laws_toFrag [.s ((a.getD 6 d0).ss), .s ((a.getD 7 d0).ss), .sl ((a.getD 8 d0).ll), .sl ((a.getD 9 d0).ll)]).bindR fun r2 =>
 (r_laws_toDef [.i ((a.getD 10 d0).ii), .b ((a.getD 11 d0).bb), .s ((a.getD 12 d0).ss), .s ((a.getD 13 d0).ss), .sl ((a.getD 14 d0).ll), .sl ((a.getD 15 d0).ll), .sl ((a.getD 16 d0).ll), .sl ((a.getD 17 d0).ll), .sl ((a.getD 18 d0).ll), .b ((a.getD 19 d0).bb), .sl ((a.getD 20 d0).ll)]).bindR fun r3 =>
 .ret [.i ((a.getD 0 d0).ii), .i ((r1.getD 0 d0).ii), .s ((r1.getD 1 d0).ss), .sl ((r1.getD 2 d0).ll), .sl ((r1.getD 3 d0).ll), .sl ((r1.getD 4 d0).ll), .s ((r2.getD 0 d0).ss), .s ((r2.getD 1 d0).ss), .sl ((r2.getD 2 d0).ll), .sl ((r2.getD 3 d0).ll), .i ((r3.getD 0 d0).ii), .b ((r3.getD 1 d0).bb), .s ((r3.getD 2 d0).ss), .s ((r3.getD 3 d0).ss), .sl ((r3.getD 4 d0).ll), .sl ((r3.getD 5 d0).ll), .sl ((r3.getD 6 d0).ll), .sl ((r3.getD 7 d0).ll), .sl ((r3.getD 8 d0).ll), .b ((r3.getD 9 d0).bb), .sl ((r3.getD 10 d0).ll)]
theorem eq_laws_toItem a : r_laws_toItem a = E_laws_toItem a := (Run_eq cfg 121 _ a).trans (by kernel_rfl)
noncomputable def E_spec_l13CopyFieldsL1 : List DC → Out := fun v1 =>
 if (decide ((v1.getD 2 d0).ii < (((v1.getD 0 d0).ll).length : Int))) = true then
 Out.andThenB (if 32 = 32 ∧ 0 ≤ (v1.getD 2 d0).ii ∧ (v1.getD 2 d0).ii < (((v1.getD 0 d0).ll).length : Int) then
 (r_spec_l13CopyIns [.sl (((((v1.getD 0 d0).ll).getD ((v1.getD 2 d0).ii).toNat []).getD 2 d0).ll)]).bindR fun r2 =>
 (r_spec_l10Dirs [.sl (((((v1.getD 0 d0).ll).getD ((v1.getD 2 d0).ii).toNat []).getD 5 d0).ll)]).bindR fun r3 =>
 if ((v1.getD 1 d0).ll).length + [[DC.s (((((v1.getD 0 d0).ll).getD ((v1.getD 2 d0).ii).toNat []).getD 0 d0).ss), DC.s (((((v1.getD 0 d0).ll).getD ((v1.getD 2 d0).ii).toNat []).getD 1 d0).ss), DC.sl ((r2.getD 0 d0).ll), DC.s (((((v1.getD 0 d0).ll).getD ((v1.getD 2 d0).ii).toNat []).getD 3 d0).ss), DC.s (((((v1.getD 0 d0).ll).getD ((v1.getD 2 d0).ii).toNat []).getD 4 d0).ss), DC.sl ((r3.getD 0 d0).ll)]].length < LIM ∧ 46 = 46 then
 .norm [.sl ((v1.getD 0 d0).ll), .sl (((v1.getD 1 d0).ll) ++ [[DC.s (((((v1.getD 0 d0).ll).getD ((v1.getD 2 d0).ii).toNat []).getD 0 d0).ss), DC.s (((((v1.getD 0 d0).ll).getD ((v1.getD 2 d0).ii).toNat []).getD 1 d0).ss), DC.sl ((r2.getD 0 d0).ll), DC.s (((((v1.getD 0 d0).ll).getD ((v1.getD 2 d0).ii).toNat []).getD 3 d0).ss), DC.s (((((v1.getD 0 d0).ll).getD ((v1.getD 2 d0).ii).toNat []).getD 4 d0).ss), DC.sl ((r3.getD 0 d0).ll)]]), .i ((v1.getD 2 d0).ii)]
 else
 .fail
 else
 .fail) 1 fun v4 =>
 .norm [.sl ((v4.getD 0 d0).ll), .sl ((v4.getD 1 d0).ll), .i (IntKind.i64.wrap ((v4.getD 2 d0).ii + (1 : Int)))]
 else
 .ex 0 [.sl ((v1.getD 1 d0).ll)]
noncomputable def E_spec_l13CopyFields (a : List DC) : Out :=
 Out.andThenB (Loop E_spec_l13CopyFieldsL1 [.sl ((a.getD 0 d0).ll), .sl [], .i (0 : Int)]) 0 fun v5 =>
 .ret [.sl ((v5.getD 0 d0).ll)]
theorem eq_spec_l13CopyFields a : r_spec_l13CopyFields a = E_spec_l13CopyFields a := (Run_eq cfg 39 _ a).trans (by kernel_rfl)
noncomputable def E_spec_l13CopyInsL1 : List DC → Out := fun v1 =>
 if (decide ((v1.getD 2 d0).ii < (((v1.getD 0 d0).ll).length : Int))) = true then
 Out.andThenB (if 139 = 139 ∧ 0 ≤ (v1.getD 2 d0).ii ∧ (v1.getD 2 d0).ii < (((v1.getD 0 d0).ll).length : Int) then
 (r_spec_l07Copy [.i (((((v1.getD 0 d0).ll).getD ((v1.getD 2 d0).ii).toNat []).getD 5 d0).ii), .s (((((v1.getD 0 d0).ll).getD ((v1.getD 2 d0).ii).toNat []).getD 6 d0).ss), .sl (((((v1.getD 0 d0).ll).getD ((v1.getD 2 d0).ii).toNat []).getD 7 d0).ll), .sl (((((v1.getD 0 d0).ll).getD ((v1.getD 2 d0).ii).toNat []).getD 8 d0).ll)]).bindR fun r2 =>
 (r_spec_l10Dirs [.sl (((((v1.getD 0 d0).ll).getD ((v1.getD 2 d0).ii).toNat []).getD 9 d0).ll)]).bindR fun r3 =>
 if ((v1.getD 1 d0).ll).length + [[DC.s (((((v1.getD 0 d0).ll).getD ((v1.getD 2 d0).ii).toNat []).getD 0 d0).ss), DC.s (((((v1.getD 0 d0).ll).getD ((v1.getD 2 d0).ii).toNat []).getD 1 d0).ss), DC.s (((((v1.getD 0 d0).ll).getD ((v1.getD 2 d0).ii).toNat []).getD 2 d0).ss), DC.s (((((v1.getD 0 d0).ll).getD ((v1.getD 2 d0).ii).toNat []).getD 3 d0).ss), DC.b (((((v1.getD 0 d0).ll).getD ((v1.getD 2 d0).ii).toNat []).getD 4 d0).bb), DC.i ((r2.getD 0 d0).ii), DC.s ((r2.getD 1 d0).ss), DC.sl ((r2.getD 2 d0).ll), DC.sl ((r2.getD 3 d0).ll), DC.sl ((r3.getD 0 d0).ll)]].length < LIM ∧ 27 = 27 then
 .norm [.sl ((v1.getD 0 d0).ll), .sl (((v1.getD 1 d0).ll) ++ [[DC.s (((((v1.getD 0 d0).ll).getD ((v1.getD 2 d0).ii).toNat []).getD 0 d0).ss), DC.s (((((v1.getD 0 d0).ll).getD ((v1.getD 2 d0).ii).toNat []).getD 1 d0).ss), DC.s (((((v1.getD 0 d0).ll).getD ((v1.getD 2 d0).ii).toNat []).getD 2 d0).ss), DC.s (((((v1.getD 0 d0).ll).getD ((v1.getD 2 d0).ii).toNat []).getD 3 d0).ss), DC.b (((((v1.getD 0 d0).ll).getD ((v1.getD 2 d0).ii).toNat []).getD 4 d0).bb), DC.i ((r2.getD 0 d0).ii), DC.s ((r2.getD 1 d0).ss), DC.sl ((r2.getD 2 d0).ll), DC.sl ((r2.getD 3 d0).ll), DC.sl ((r3.getD 0 d0).ll)]]), .i ((v1.getD 2 d0).ii)]
 else
 .fail
 else
 .fail) 1 fun v4 =>
 .norm [.sl ((v4.getD 0 d0).ll), .sl ((v4.getD 1 d0).ll), .i (IntKind.i64.wrap ((v4.getD 2 d0).ii + (1 : Int)))]
 else
 .ex 0 [.sl ((v1.getD 1 d0).ll)]
noncomputable def E_spec_l13CopyIns (a : List DC) : Out :=
 Out.andThenB (Loop E_spec_l13CopyInsL1 [.sl ((a.getD 0 d0).ll), .sl [], .i (0 : Int)]) 0 fun v5 =>
 .ret [.sl ((v5.getD 0 d0).ll)]
theorem eq_spec_l13CopyIns a : r_spec_l13CopyIns a = E_spec_l13CopyIns a := (Run_eq cfg 86 _ a).trans (by kernel_rfl)
noncomputable def E_spec_l13CopyValuesL1 : List DC → Out := fun v1 =>
 if (decide ((v1.getD 2 d0).ii < (((v1.getD 0 d0).ll).length : Int))) = true then
 Out.andThenB (if 154 = 154 ∧ 0 ≤ (v1.getD 2 d0).ii ∧ (v1.getD 2 d0).ii < (((v1.getD 0 d0).ll).length : Int) then
 (r_spec_l10Dirs [.sl (((((v1.getD 0 d0).ll).getD ((v1.getD 2 d0).ii).toNat []).getD 2 d0).ll)]).bindR fun r2 =>
 if ((v1.getD 1 d0).ll).length + [[DC.s (((((v1.getD 0 d0).ll).getD ((v1.getD 2 d0).ii).toNat []).getD 0 d0).ss), DC.s (((((v1.getD 0 d0).ll).getD ((v1.getD 2 d0).ii).toNat []).getD 1 d0).ss), DC.sl ((r2.getD 0 d0).ll)]].length < LIM ∧ 47 = 47 then
 .norm [.sl ((v1.getD 0 d0).ll), .sl (((v1.getD 1 d0).ll) ++ [[DC.s (((((v1.getD 0 d0).ll).getD ((v1.getD 2 d0).ii).toNat []).getD 0 d0).ss), DC.s (((((v1.getD 0 d0).ll).getD ((v1.getD 2 d0).ii).toNat []).getD 1 d0).ss), DC.sl ((r2.getD 0 d0).ll)]]), .i ((v1.getD 2 d0).ii)]
 else
 .fail
 else
 .fail) 1 fun v3 =>
 .norm [.sl ((v3.getD 0 d0).ll), .sl ((v3.getD 1 d0).ll), .i (IntKind.i64.wrap ((v3.getD 2 d0).ii + (1 : Int)))]
 else
 .ex 0 [.sl ((v1.getD 1 d0).ll)]
noncomputable def E_spec_l13CopyValues (a : List DC) : Out :=
 Out.andThenB (Loop E_spec_l13CopyValuesL1 [.sl ((a.getD 0 d0).ll), .sl [], .i (0 : Int)]) 0 fun v4 =>
 .ret [.sl ((v4.getD 0 d0).ll)]
theorem eq_spec_l13CopyValues a : r_spec_l13CopyValues a = E_spec_l13CopyValues a := (Run_eq cfg 102 _ a).trans (by kernel_rfl)
noncomputable def E_spec_l10DirsL1 : List DC → Out := fun v1 =>
 if (decide ((v1.getD 2 d0).ii < (((v1.getD 0 d0).ll).length : Int))) = true then
 Out.andThenB (if 143 = 143 ∧ 0 ≤ (v1.getD 2 d0).ii ∧ (v1.getD 2 d0).ii < (((v1.getD 0 d0).ll).length : Int) then
 if 143 = 143 ∧ 0 ≤ (v1.getD 2 d0).ii ∧ (v1.getD 2 d0).ii < (((v1.getD 0 d0).ll).length : Int) then
 (r_spec_l10Args [.sl (((((v1.getD 0 d0).ll).getD ((v1.getD 2 d0).ii).toNat []).getD 1 d0).ll)]).bindR fun r2 =>
 if ((v1.getD 1 d0).ll).length + [[DC.s (((((v1.getD 0 d0).ll).getD ((v1.getD 2 d0).ii).toNat []).getD 0 d0).ss), DC.sl ((r2.getD 0 d0).ll)]].length < LIM ∧ 30 = 30 then
 .norm [.sl ((v1.getD 0 d0).ll), .sl (((v1.getD 1 d0).ll) ++ [[DC.s (((((v1.getD 0 d0).ll).getD ((v1.getD 2 d0).ii).toNat []).getD 0 d0).ss), DC.sl ((r2.getD 0 d0).ll)]]), .i ((v1.getD 2 d0).ii)]
 else
 .fail
 else
 .fail
 else
 .fail) 1 fun v3 =>
 .norm [.sl ((v3.getD 0 d0).ll), .sl ((v3.getD 1 d0).ll), .i (IntKind.i64.wrap ((v3.getD 2 d0).ii + (1 : Int)))]
 else
 .ex 0 [.sl ((v1.getD 1 d0).ll)]
noncomputable def E_spec_l10Dirs (a : List DC) : Out :=
 Out.andThenB (Loop E_spec_l10DirsL1 [.sl ((a.getD 0 d0).ll), .sl [], .i (0 : Int)]) 0 fun v4 =>
 .ret [.sl ((v4.getD 0 d0).ll)]
theorem eq_spec_l10Dirs a : r_spec_l10Dirs a = E_spec_l10Dirs a := (Run_eq cfg 87 _ a).trans (by kernel_rfl)
noncomputable def E_slices_Clone_string (a : List DC) : Out := match primC 9 h_slices_Clone_string a with | some r => .ret r | none => .fail
theorem eq_slices_Clone_string a : r_slices_Clone_string a = E_slices_Clone_string a := (Run_eq cfg 105 h_slices_Clone_string a).trans (by kernel_rfl)
theorem at_slices_Clone_string (l : List (List DC)) (hl : l.length ≤ 4194304) : r_slices_Clone_string [.sl l] = .ret [.sl l] := by
  have h : l.length < LIM := by unfold LIM; omega
  have k : primC 9 h_slices_Clone_string [.sl l] = some [.sl l] := by
    show (if 9 = 9 ∧ l.length < LIM then some [DC.sl l] else none) = _
    rw [if_pos ⟨rfl, h⟩]
  rw [eq_slices_Clone_string, E_slices_Clone_string, k]
noncomputable def E_impl_cloneFieldsL1 : List DC → Out := fun v5 =>
 if (decide ((v5.getD 3 d0).ii < (v5.getD 2 d0).ii)) = true then
 Out.andThenB (if 32 = 32 ∧ 0 ≤ (v5.getD 3 d0).ii ∧ (v5.getD 3 d0).ii < (((v5.getD 1 d0).ll).length : Int) then
 (r_impl_cloneIns [.sl (((((v5.getD 1 d0).ll).getD ((v5.getD 3 d0).ii).toNat []).getD 2 d0).ll)]).bindR fun r6 =>
 (r_impl_cloneDirs [.sl (((((v5.getD 1 d0).ll).getD ((v5.getD 3 d0).ii).toNat []).getD 5 d0).ll)]).bindR fun r7 =>
 if ((v5.getD 0 d0).ll).length + [[DC.s (((((v5.getD 1 d0).ll).getD ((v5.getD 3 d0).ii).toNat []).getD 0 d0).ss), DC.s (((((v5.getD 1 d0).ll).getD ((v5.getD 3 d0).ii).toNat []).getD 1 d0).ss), DC.sl ((r6.getD 0 d0).ll), DC.s (((((v5.getD 1 d0).ll).getD ((v5.getD 3 d0).ii).toNat []).getD 3 d0).ss), DC.s (((((v5.getD 1 d0).ll).getD ((v5.getD 3 d0).ii).toNat []).getD 4 d0).ss), DC.sl ((r7.getD 0 d0).ll)]].length < LIM ∧ 46 = 46 then
 .norm [.sl (((v5.getD 0 d0).ll) ++ [[DC.s (((((v5.getD 1 d0).ll).getD ((v5.getD 3 d0).ii).toNat []).getD 0 d0).ss), DC.s (((((v5.getD 1 d0).ll).getD ((v5.getD 3 d0).ii).toNat []).getD 1 d0).ss), DC.sl ((r6.getD 0 d0).ll), DC.s (((((v5.getD 1 d0).ll).getD ((v5.getD 3 d0).ii).toNat []).getD 3 d0).ss), DC.s (((((v5.getD 1 d0).ll).getD ((v5.getD 3 d0).ii).toNat []).getD 4 d0).ss), DC.sl ((r7.getD 0 d0).ll)]]), .sl ((v5.getD 1 d0).ll), .i ((v5.getD 2 d0).ii), .i ((v5.getD 3 d0).ii)]
 else
 .fail
 else
 .fail) 1 fun v8 =>
 .norm [.sl ((v8.getD 0 d0).ll), .sl ((v8.getD 1 d0).ll), .i ((v8.getD 2 d0).ii), .i (IntKind.i64.wrap ((v8.getD 3 d0).ii + (1 : Int)))]
 else
 .ex 0 [.sl ((v5.getD 0 d0).ll)]
noncomputable def E_impl_cloneFields (a : List DC) : Out :=
 Out.andThenB (Loop E_impl_cloneFieldsL1 [.sl [], .sl ((a.getD 0 d0).ll), .i (((a.getD 0 d0).ll).length : Int), .i (0 : Int)]) 0 fun v9 =>
 .ret [.sl ((v9.getD 0 d0).ll)]
theorem eq_impl_cloneFields a : r_impl_cloneFields a = E_impl_cloneFields a := (Run_eq cfg 42 _ a).trans (by kernel_rfl)
noncomputable def E_impl_cloneInsL1 : List DC → Out := fun v5 =>
 if (decide ((v5.getD 3 d0).ii < (v5.getD 2 d0).ii)) = true then
 Out.andThenB (if 139 = 139 ∧ 0 ≤ (v5.getD 3 d0).ii ∧ (v5.getD 3 d0).ii < (((v5.getD 1 d0).ll).length : Int) then
 (r_impl_cloneValue [.i (((((v5.getD 1 d0).ll).getD ((v5.getD 3 d0).ii).toNat []).getD 5 d0).ii), .s (((((v5.getD 1 d0).ll).getD ((v5.getD 3 d0).ii).toNat []).getD 6 d0).ss), .sl (((((v5.getD 1 d0).ll).getD ((v5.getD 3 d0).ii).toNat []).getD 7 d0).ll), .sl (((((v5.getD 1 d0).ll).getD ((v5.getD 3 d0).ii).toNat []).getD 8 d0).ll)]).bindR fun r6 =>
 (r_impl_cloneDirs [.sl (((((v5.getD 1 d0).ll).getD ((v5.getD 3 d0).ii).toNat []).getD 9 d0).ll)]).bindR fun r7 =>
 if ((v5.getD 0 d0).ll).length + [[DC.s (((((v5.getD 1 d0).ll).getD ((v5.getD 3 d0).ii).toNat []).getD 0 d0).ss), DC.s (((((v5.getD 1 d0).ll).getD ((v5.getD 3 d0).ii).toNat []).getD 1 d0).ss), DC.s (((((v5.getD 1 d0).ll).getD ((v5.getD 3 d0).ii).toNat []).getD 2 d0).ss), DC.s (((((v5.getD 1 d0).ll).getD ((v5.getD 3 d0).ii).toNat []).getD 3 d0).ss), DC.b (((((v5.getD 1 d0).ll).getD ((v5.getD 3 d0).ii).toNat []).getD 4 d0).bb), DC.i ((r6.getD 0 d0).ii), DC.s ((r6.getD 1 d0).ss), DC.sl ((r6.getD 2 d0).ll), DC.sl ((r6.getD 3 d0).ll), DC.sl ((r7.getD 0 d0).ll)]].length < LIM ∧ 27 = 27 then
 .norm [.sl (((v5.getD 0 d0).ll) ++ [[DC.s (((((v5.getD 1 d0).ll).getD ((v5.getD 3 d0).ii).toNat []).getD 0 d0).ss), DC.s (((((v5.getD 1 d0).ll).getD ((v5.getD 3 d0).ii).toNat []).getD 1 d0).ss), DC.s (((((v5.getD 1 d0).ll).getD ((v5.getD 3 d0).ii).toNat []).getD 2 d0).ss), DC.s (((((v5.getD 1 d0).ll).getD ((v5.getD 3 d0).ii).toNat []).getD 3 d0).ss), DC.b (((((v5.getD 1 d0).ll).getD ((v5.getD 3 d0).ii).toNat []).getD 4 d0).bb), DC.i ((r6.getD 0 d0).ii), DC.s ((r6.getD 1 d0).ss), DC.sl ((r6.getD 2 d0).ll), DC.sl ((r6.getD 3 d0).ll), DC.sl ((r7.getD 0 d0).ll)]]), .sl ((v5.getD 1 d0).ll), .i ((v5.getD 2 d0).ii), .i ((v5.getD 3 d0).ii)]
 else
 .fail
 else
 .fail) 1 fun v8 =>
 .norm [.sl ((v8.getD 0 d0).ll), .sl ((v8.getD 1 d0).ll), .i ((v8.getD 2 d0).ii), .i (IntKind.i64.wrap ((v8.getD 3 d0).ii + (1 : Int)))]
 else
 .ex 0 [.sl ((v5.getD 0 d0).ll)]
noncomputable def E_impl_cloneIns (a : List DC) : Out :=
 Out.andThenB (Loop E_impl_cloneInsL1 [.sl [], .sl ((a.getD 0 d0).ll), .i (((a.getD 0 d0).ll).length : Int), .i (0 : Int)]) 0 fun v9 =>
 .ret [.sl ((v9.getD 0 d0).ll)]
theorem eq_impl_cloneIns a : r_impl_cloneIns a = E_impl_cloneIns a := (Run_eq cfg 92 _ a).trans (by kernel_rfl)
noncomputable def E_impl_cloneEnumsL1 : List DC → Out := fun v4 =>
 if (decide ((v4.getD 3 d0).ii < (v4.getD 2 d0).ii)) = true then
 Out.andThenB (if 154 = 154 ∧ 0 ≤ (v4.getD 3 d0).ii ∧ (v4.getD 3 d0).ii < (((v4.getD 1 d0).ll).length : Int) then
 (r_impl_cloneDirs [.sl (((((v4.getD 1 d0).ll).getD ((v4.getD 3 d0).ii).toNat []).getD 2 d0).ll)]).bindR fun r5 =>
 if ((v4.getD 0 d0).ll).length + [[DC.s (((((v4.getD 1 d0).ll).getD ((v4.getD 3 d0).ii).toNat []).getD 0 d0).ss), DC.s (((((v4.getD 1 d0).ll).getD ((v4.getD 3 d0).ii).toNat []).getD 1 d0).ss), DC.sl ((r5.getD 0 d0).ll)]].length < LIM ∧ 47 = 47 then
 .norm [.sl (((v4.getD 0 d0).ll) ++ [[DC.s (((((v4.getD 1 d0).ll).getD ((v4.getD 3 d0).ii).toNat []).getD 0 d0).ss), DC.s (((((v4.getD 1 d0).ll).getD ((v4.getD 3 d0).ii).toNat []).getD 1 d0).ss), DC.sl ((r5.getD 0 d0).ll)]]), .sl ((v4.getD 1 d0).ll), .i ((v4.getD 2 d0).ii), .i ((v4.getD 3 d0).ii)]
 else
 .fail
 else
 .fail) 1 fun v6 =>
 .norm [.sl ((v6.getD 0 d0).ll), .sl ((v6.getD 1 d0).ll), .i ((v6.getD 2 d0).ii), .i (IntKind.i64.wrap ((v6.getD 3 d0).ii + (1 : Int)))]
 else
 .ex 0 [.sl ((v4.getD 0 d0).ll)]
noncomputable def E_impl_cloneEnums (a : List DC) : Out :=
 Out.andThenB (Loop E_impl_cloneEnumsL1 [.sl [], .sl ((a.getD 0 d0).ll), .i (((a.getD 0 d0).ll).length : Int), .i (0 : Int)]) 0 fun v7 =>
 .ret [.sl ((v7.getD 0 d0).ll)]
theorem eq_impl_cloneEnums a : r_impl_cloneEnums a = E_impl_cloneEnums a := (Run_eq cfg 106 _ a).trans (by kernel_rfl)
noncomputable def E_slices_Clone_impl_Root (a : List DC) : Out := match primC 131 h_slices_Clone_impl_Root a with | some r => .ret r | none => .fail
theorem eq_slices_Clone_impl_Root a : r_slices_Clone_impl_Root a = E_slices_Clone_impl_Root a := (Run_eq cfg 107 h_slices_Clone_impl_Root a).trans (by kernel_rfl)
theorem at_slices_Clone_impl_Root (l : List (List DC)) (hl : l.length ≤ 4194304) : r_slices_Clone_impl_Root [.sl l] = .ret [.sl l] := by
  have h : l.length < LIM := by unfold LIM; omega
  have k : primC 131 h_slices_Clone_impl_Root [.sl l] = some [.sl l] := by
    show (if 131 = 131 ∧ l.length < LIM then some [DC.sl l] else none) = _
    rw [if_pos ⟨rfl, h⟩]
  rw [eq_slices_Clone_impl_Root, E_slices_Clone_impl_Root, k]
noncomputable def E_impl_cloneDirsL1 : List DC → Out := fun v4 =>
 if (decide ((v4.getD 3 d0).ii < (v4.getD 2 d0).ii)) = true then
 Out.andThenB (if 143 = 143 ∧ 0 ≤ (v4.getD 3 d0).ii ∧ (v4.getD 3 d0).ii < (((v4.getD 1 d0).ll).length : Int) then
 (r_impl_cloneArgs [.sl (((((v4.getD 1 d0).ll).getD ((v4.getD 3 d0).ii).toNat []).getD 1 d0).ll)]).bindR fun r5 =>
 if ((v4.getD 0 d0).ll).length + [[DC.s (((((v4.getD 1 d0).ll).getD ((v4.getD 3 d0).ii).toNat []).getD 0 d0).ss), DC.sl ((r5.getD 0 d0).ll)]].length < LIM ∧ 30 = 30 then
 .norm [.sl (((v4.getD 0 d0).ll) ++ [[DC.s (((((v4.getD 1 d0).ll).getD ((v4.getD 3 d0).ii).toNat []).getD 0 d0).ss), DC.sl ((r5.getD 0 d0).ll)]]), .sl ((v4.getD 1 d0).ll), .i ((v4.getD 2 d0).ii), .i ((v4.getD 3 d0).ii)]
 else
 .fail
 else
 .fail) 1 fun v6 =>
 .norm [.sl ((v6.getD 0 d0).ll), .sl ((v6.getD 1 d0).ll), .i ((v6.getD 2 d0).ii), .i (IntKind.i64.wrap ((v6.getD 3 d0).ii + (1 : Int)))]
 else
 .ex 0 [.sl ((v4.getD 0 d0).ll)]
noncomputable def E_impl_cloneDirs (a : List DC) : Out :=
 Out.andThenB (Loop E_impl_cloneDirsL1 [.sl [], .sl ((a.getD 0 d0).ll), .i (((a.getD 0 d0).ll).length : Int), .i (0 : Int)]) 0 fun v7 =>
 .ret [.sl ((v7.getD 0 d0).ll)]
theorem eq_impl_cloneDirs a : r_impl_cloneDirs a = E_impl_cloneDirs a := (Run_eq cfg 93 _ a).trans (by kernel_rfl)
noncomputable def E_laws_eqStringSL1 : List DC → Out := fun v1 =>
 if (decide ((v1.getD 2 d0).ii < (((v1.getD 0 d0).ll).length : Int))) = true then
 Out.andThenB (if 9 = 9 ∧ 0 ≤ (v1.getD 2 d0).ii ∧ (v1.getD 2 d0).ii < (((v1.getD 0 d0).ll).length : Int) then
 if 9 = 9 ∧ 0 ≤ (v1.getD 2 d0).ii ∧ (v1.getD 2 d0).ii < (((v1.getD 1 d0).ll).length : Int) then
 if (!(((((v1.getD 0 d0).ll).getD ((v1.getD 2 d0).ii).toNat []).getD 0 d0).ss == ((((v1.getD 1 d0).ll).getD ((v1.getD 2 d0).ii).toNat []).getD 0 d0).ss)) = true then
 .ret [.b false]
 else
 .norm [.sl ((v1.getD 0 d0).ll), .sl ((v1.getD 1 d0).ll), .i ((v1.getD 2 d0).ii)]
 else
 .fail
 else
 .fail) 1 fun v2 =>
 .norm [.sl ((v2.getD 0 d0).ll), .sl ((v2.getD 1 d0).ll), .i (IntKind.i64.wrap ((v2.getD 2 d0).ii + (1 : Int)))]
 else
 .ex 0 []
noncomputable def E_laws_eqStringS (a : List DC) : Out :=
 if ((((a.getD 0 d0).ll).length : Int) != (((a.getD 1 d0).ll).length : Int)) = true then
 .ret [.b false]
 else
 Out.andThenB (Loop E_laws_eqStringSL1 [.sl ((a.getD 0 d0).ll), .sl ((a.getD 1 d0).ll), .i (0 : Int)]) 0 fun v3 =>
 .ret [.b true]
theorem eq_laws_eqStringS a : r_laws_eqStringS a = E_laws_eqStringS a := (Run_eq cfg 56 _ a).trans (by kernel_rfl)
noncomputable def E_laws_eqFieldDefSL1 : List DC → Out := fun v1 =>
 if (decide ((v1.getD 2 d0).ii < (((v1.getD 0 d0).ll).length : Int))) = true then
 Out.andThenB (if 32 = 32 ∧ 0 ≤ (v1.getD 2 d0).ii ∧ (v1.getD 2 d0).ii < (((v1.getD 0 d0).ll).length : Int) then
 if 32 = 32 ∧ 0 ≤ (v1.getD 2 d0).ii ∧ (v1.getD 2 d0).ii < (((v1.getD 1 d0).ll).length : Int) then
 (r_laws_eqFieldDef [.s (((((v1.getD 0 d0).ll).getD ((v1.getD 2 d0).ii).toNat []).getD 0 d0).ss), .s (((((v1.getD 0 d0).ll).getD ((v1.getD 2 d0).ii).toNat []).getD 1 d0).ss), .sl (((((v1.getD 0 d0).ll).getD ((v1.getD 2 d0).ii).toNat []).getD 2 d0).ll), .s (((((v1.getD 0 d0).ll).getD ((v1.getD 2 d0).ii).toNat []).getD 3 d0).ss), .s (((((v1.getD 0 d0).ll).getD ((v1.getD 2 d0).ii).toNat []).getD 4 d0).ss), .sl (((((v1.getD 0 d0).ll).getD ((v1.getD 2 d0).ii).toNat []).getD 5 d0).ll), .s (((((v1.getD 1 d0).ll).getD ((v1.getD 2 d0).ii).toNat []).getD 0 d0).ss), .s (((((v1.getD 1 d0).ll).getD ((v1.getD 2 d0).ii).toNat []).getD 1 d0).ss), .sl (((((v1.getD 1 d0).ll).getD ((v1.getD 2 d0).ii).toNat []).getD 2 d0).ll), .s (((((v1.getD 1 d0).ll).getD ((v1.getD 2 d0).ii).toNat []).getD 3 d0).ss), .s (((((v1.getD 1 d0).ll).getD ((v1.getD 2 d0).ii).toNat []).getD 4 d0).ss), .sl (((((v1.getD 1 d0).ll).getD ((v1.getD 2 d0).ii).toNat []).getD 5 d0).ll)]).bindR fun r2 =>
 if (!((r2.getD 0 d0).bb)) = true then
 .ret [.b false]
 else
 .norm [.sl ((v1.getD 0 d0).ll), .sl ((v1.getD 1 d0).ll), .i ((v1.getD 2 d0).ii)]
 else
 .fail
 else
 .fail) 1 fun v3 =>
 .norm [.sl ((v3.getD 0 d0).ll), .sl ((v3.getD 1 d0).ll), .i (IntKind.i64.wrap ((v3.getD 2 d0).ii + (1 : Int)))]
 else
 .ex 0 []
noncomputable def E_laws_eqFieldDefS (a : List DC) : Out :=
 if ((((a.getD 0 d0).ll).length : Int) != (((a.getD 1 d0).ll).length : Int)) = true then
 .ret [.b false]
 else
 Out.andThenB (Loop E_laws_eqFieldDefSL1 [.sl ((a.getD 0 d0).ll), .sl ((a.getD 1 d0).ll), .i (0 : Int)]) 0 fun v4 =>
 .ret [.b true]
theorem eq_laws_eqFieldDefS a : r_laws_eqFieldDefS a = E_laws_eqFieldDefS a := (Run_eq cfg 57 _ a).trans (by kernel_rfl)
noncomputable def E_laws_eqInDefSL1 : List DC → Out := fun v1 =>
 if (decide ((v1.getD 2 d0).ii < (((v1.getD 0 d0).ll).length : Int))) = true then
 Out.andThenB (if 139 = 139 ∧ 0 ≤ (v1.getD 2 d0).ii ∧ (v1.getD 2 d0).ii < (((v1.getD 0 d0).ll).length : Int) then
 if 139 = 139 ∧ 0 ≤ (v1.getD 2 d0).ii ∧ (v1.getD 2 d0).ii < (((v1.getD 1 d0).ll).length : Int) then
 (r_laws_eqInDef [.s (((((v1.getD 0 d0).ll).getD ((v1.getD 2 d0).ii).toNat []).getD 0 d0).ss), .s (((((v1.getD 0 d0).ll).getD ((v1.getD 2 d0).ii).toNat []).getD 1 d0).ss), .s (((((v1.getD 0 d0).ll).getD ((v1.getD 2 d0).ii).toNat []).getD 2 d0).ss), .s (((((v1.getD 0 d0).ll).getD ((v1.getD 2 d0).ii).toNat []).getD 3 d0).ss), .b (((((v1.getD 0 d0).ll).getD ((v1.getD 2 d0).ii).toNat []).getD 4 d0).bb), .i (((((v1.getD 0 d0).ll).getD ((v1.getD 2 d0).ii).toNat []).getD 5 d0).ii), .s (((((v1.getD 0 d0).ll).getD ((v1.getD 2 d0).ii).toNat []).getD 6 d0).ss), .sl (((((v1.getD 0 d0).ll).getD ((v1.getD 2 d0).ii).toNat []).getD 7 d0).ll), .sl (((((v1.getD 0 d0).ll).getD ((v1.getD 2 d0).ii).toNat []).getD 8 d0).ll), .sl (((((v1.getD 0 d0).ll).getD ((v1.getD 2 d0).ii).toNat []).getD 9 d0).ll), .s (((((v1.getD 1 d0).ll).getD ((v1.getD 2 d0).ii).toNat []).getD 0 d0).ss), .s (((((v1.getD 1 d0).ll).getD ((v1.getD 2 d0).ii).toNat []).getD 1 d0).ss), .s (((((v1.getD 1 d0).ll).getD ((v1.getD 2 d0).ii).toNat []).getD 2 d0).ss), .s (((((v1.getD 1 d0).ll).getD ((v1.getD 2 d0).ii).toNat []).getD 3 d0).ss), .b (((((v1.getD 1 d0).ll).getD ((v1.getD 2 d0).ii).toNat []).getD 4 d0).bb), .i (((((v1.getD 1 d0).ll).getD ((v1.getD 2 d0).ii).toNat []).getD 5 d0).ii), .s (((((v1.getD 1 d0).ll).getD ((v1.getD 2 d0).ii).toNat []).getD 6 d0).ss), .sl (((((v1.getD 1 d0).ll).getD ((v1.getD 2 d0).ii).toNat []).getD 7 d0).ll), .sl (((((v1.getD 1 d0).ll).getD ((v1.getD 2 d0).ii).toNat []).getD 8 d0).ll), .sl (((((v1.getD 1 d0).ll).getD ((v1.getD 2 d0).ii).toNat []).getD 9 d0).ll)]).bindR fun r2 =>
 if (!((r2.getD 0 d0).bb)) = true then
 .ret [.b false]
 else
 .norm [.sl ((v1.getD 0 d0).ll), .sl ((v1.getD 1 d0).ll), .i ((v1.getD 2 d0).ii)]
 else
 .fail
 else
 .fail) 1 fun v3 =>
 .norm [.sl ((v3.getD 0 d0).ll), .sl ((v3.getD 1 d0).ll), .i (IntKind.i64.wrap ((v3.getD 2 d0).ii + (1 : Int)))]
 else
 .ex 0 []
noncomputable def E_laws_eqInDefS (a : List DC) : Out :=
 if ((((a.getD 0 d0).ll).length : Int) != (((a.getD 1 d0).ll).length : Int)) = true then
 .ret [.b false]
 else
 Out.andThenB (Loop E_laws_eqInDefSL1 [.sl ((a.getD 0 d0).ll), .sl ((a.getD 1 d0).ll), .i (0 : Int)]) 0 fun v4 =>
 .ret [.b true]
theorem eq_laws_eqInDefS a : r_laws_eqInDefS a = E_laws_eqInDefS a := (Run_eq cfg 43 _ a).trans (by kernel_rfl)
noncomputable def E_laws_eqEnumDefSL1 : List DC → Out := fun v1 =>
 if (decide ((v1.getD 2 d0).ii < (((v1.getD 0 d0).ll).length : Int))) = true then
 Out.andThenB (if 154 = 154 ∧ 0 ≤ (v1.getD 2 d0).ii ∧ (v1.getD 2 d0).ii < (((v1.getD 0 d0).ll).length : Int) then
 if 154 = 154 ∧ 0 ≤ (v1.getD 2 d0).ii ∧ (v1.getD 2 d0).ii < (((v1.getD 1 d0).ll).length : Int) then
 (r_laws_eqEnumDef [.s (((((v1.getD 0 d0).ll).getD ((v1.getD 2 d0).ii).toNat []).getD 0 d0).ss), .s (((((v1.getD 0 d0).ll).getD ((v1.getD 2 d0).ii).toNat []).getD 1 d0).ss), .sl (((((v1.getD 0 d0).ll).getD ((v1.getD 2 d0).ii).toNat []).getD 2 d0).ll), .s (((((v1.getD 1 d0).ll).getD ((v1.getD 2 d0).ii).toNat []).getD 0 d0).ss), .s (((((v1.getD 1 d0).ll).getD ((v1.getD 2 d0).ii).toNat []).getD 1 d0).ss), .sl (((((v1.getD 1 d0).ll).getD ((v1.getD 2 d0).ii).toNat []).getD 2 d0).ll)]).bindR fun r2 =>
 if (!((r2.getD 0 d0).bb)) = true then
 .ret [.b false]
 else
 .norm [.sl ((v1.getD 0 d0).ll), .sl ((v1.getD 1 d0).ll), .i ((v1.getD 2 d0).ii)]
 else
 .fail
 else
 .fail) 1 fun v3 =>
 .norm [.sl ((v3.getD 0 d0).ll), .sl ((v3.getD 1 d0).ll), .i (IntKind.i64.wrap ((v3.getD 2 d0).ii + (1 : Int)))]
 else
 .ex 0 []
noncomputable def E_laws_eqEnumDefS (a : List DC) : Out :=
 if ((((a.getD 0 d0).ll).length : Int) != (((a.getD 1 d0).ll).length : Int)) = true then
 .ret [.b false]
 else
 Out.andThenB (Loop E_laws_eqEnumDefSL1 [.sl ((a.getD 0 d0).ll), .sl ((a.getD 1 d0).ll), .i (0 : Int)]) 0 fun v4 =>
 .ret [.b true]
theorem eq_laws_eqEnumDefS a : r_laws_eqEnumDefS a = E_laws_eqEnumDefS a := (Run_eq cfg 58 _ a).trans (by kernel_rfl)
noncomputable def E_laws_eqRootSL1 : List DC → Out := fun v1 =>
 if (decide ((v1.getD 2 d0).ii < (((v1.getD 0 d0).ll).length : Int))) = true then
 Out.andThenB (if 131 = 131 ∧ 0 ≤ (v1.getD 2 d0).ii ∧ (v1.getD 2 d0).ii < (((v1.getD 0 d0).ll).length : Int) then
 if 131 = 131 ∧ 0 ≤ (v1.getD 2 d0).ii ∧ (v1.getD 2 d0).ii < (((v1.getD 1 d0).ll).length : Int) then
 (r_laws_eqRoot [.i (((((v1.getD 0 d0).ll).getD ((v1.getD 2 d0).ii).toNat []).getD 0 d0).ii), .s (((((v1.getD 0 d0).ll).getD ((v1.getD 2 d0).ii).toNat []).getD 1 d0).ss), .i (((((v1.getD 1 d0).ll).getD ((v1.getD 2 d0).ii).toNat []).getD 0 d0).ii), .s (((((v1.getD 1 d0).ll).getD ((v1.getD 2 d0).ii).toNat []).getD 1 d0).ss)]).bindR fun r2 =>
 if (!((r2.getD 0 d0).bb)) = true then
 .ret [.b false]
 else
 .norm [.sl ((v1.getD 0 d0).ll), .sl ((v1.getD 1 d0).ll), .i ((v1.getD 2 d0).ii)]
 else
 .fail
 else
 .fail) 1 fun v3 =>
 .norm [.sl ((v3.getD 0 d0).ll), .sl ((v3.getD 1 d0).ll), .i (IntKind.i64.wrap ((v3.getD 2 d0).ii + (1 : Int)))]
 else
 .ex 0 []
noncomputable def E_laws_eqRootS (a : List DC) : Out :=
 if ((((a.getD 0 d0).ll).length : Int) != (((a.getD 1 d0).ll).length : Int)) = true then
 .ret [.b false]
 else
 Out.andThenB (Loop E_laws_eqRootSL1 [.sl ((a.getD 0 d0).ll), .sl ((a.getD 1 d0).ll), .i (0 : Int)]) 0 fun v4 =>
 .ret [.b true]
theorem eq_laws_eqRootS a : r_laws_eqRootS a = E_laws_eqRootS a := (Run_eq cfg 46 _ a).trans (by kernel_rfl)
noncomputable def E_laws_eqDirSL1 : List DC → Out := fun v1 =>
 if (decide ((v1.getD 2 d0).ii < (((v1.getD 0 d0).ll).length : Int))) = true then
 Out.andThenB (if 143 = 143 ∧ 0 ≤ (v1.getD 2 d0).ii ∧ (v1.getD 2 d0).ii < (((v1.getD 0 d0).ll).length : Int) then
 if 143 = 143 ∧ 0 ≤ (v1.getD 2 d0).ii ∧ (v1.getD 2 d0).ii < (((v1.getD 1 d0).ll).length : Int) then
 (r_laws_eqDir [.s (((((v1.getD 0 d0).ll).getD ((v1.getD 2 d0).ii).toNat []).getD 0 d0).ss), .sl (((((v1.getD 0 d0).ll).getD ((v1.getD 2 d0).ii).toNat []).getD 1 d0).ll), .s (((((v1.getD 1 d0).ll).getD ((v1.getD 2 d0).ii).toNat []).getD 0 d0).ss), .sl (((((v1.getD 1 d0).ll).getD ((v1.getD 2 d0).ii).toNat []).getD 1 d0).ll)]).bindR fun r2 =>
 if (!((r2.getD 0 d0).bb)) = true then
 .ret [.b false]
 else
 .norm [.sl ((v1.getD 0 d0).ll), .sl ((v1.getD 1 d0).ll), .i ((v1.getD 2 d0).ii)]
 else
 .fail
 else
 .fail) 1 fun v3 =>
 .norm [.sl ((v3.getD 0 d0).ll), .sl ((v3.getD 1 d0).ll), .i (IntKind.i64.wrap ((v3.getD 2 d0).ii + (1 : Int)))]
 else
 .ex 0 []
noncomputable def E_laws_eqDirS (a : List DC) : Out :=
 if ((((a.getD 0 d0).ll).length : Int) != (((a.getD 1 d0).ll).length : Int)) = true then
 .ret [.b false]
 else
 Out.andThenB (Loop E_laws_eqDirSL1 [.sl ((a.getD 0 d0).ll), .sl ((a.getD 1 d0).ll), .i (0 : Int)]) 0 fun v4 =>
 .ret [.b true]
theorem eq_laws_eqDirS a : r_laws_eqDirS a = E_laws_eqDirS a := (Run_eq cfg 45 _ a).trans (by kernel_rfl)
noncomputable def E_laws_eqItem (a : List DC) : Out :=
 if ((a.getD 0 d0).ii != (a.getD 21 d0).ii) = true then
 .ret [.b false]
 else
 (r_laws_eqOp [.i ((a.getD 1 d0).ii), .s ((a.getD 2 d0).ss), .sl ((a.getD 3 d0).ll), .sl ((a.getD 4 d0).ll), .sl ((a.getD 5 d0).ll), .i ((a.getD 22 d0).ii), .s ((a.getD 23 d0).ss), .sl ((a.getD 24 d0).ll), .sl ((a.getD 25 d0).ll), .sl ((a.getD 26 d0).ll)]).bindR fun r1 =>
 if (!((r1.getD 0 d0).bb)) = true then
 .ret [.b false]
 else
 (r_laws_eqFrag [.s ((a.getD 6 d0).ss), .s ((a.getD 7 d0).ss), .sl ((a.getD 8 d0).ll), .sl ((a.getD 9 d0).ll), .s ((a.getD 27 d0).ss), .s ((a.getD 28 d0).ss), .sl ((a.getD 29 d0).ll), .sl ((a.getD 30 d0).ll)]).bindR fun r2 =>
 if (!((r2.getD 0 d0).bb)) = true then
 .ret [.b false]
 else
 (r_laws_eqDef [.i ((a.getD 10 d0).ii), .b ((a.getD 11 d0).bb), .s ((a.getD 12 d0).ss), .s ((a.getD 13 d0).ss), .sl ((a.getD 14 d0).ll), .sl ((a.getD 15 d0).ll), .sl ((a.getD 16 d0).ll), .sl ((a.getD 17 d0).ll), .sl ((a.getD 18 d0).ll), .b ((a.getD 19 d0).bb), .sl ((a.getD 20 d0).ll), .i ((a.getD 31 d0).ii), .b ((a.getD 32 d0).bb), .s ((a.getD 33 d0).ss), .s ((a.getD 34 d0).ss), .sl ((a.getD 35 d0).ll), .sl ((a.getD 36 d0).ll), .sl ((a.getD 37 d0).ll), .sl ((a.getD 38 d0).ll), .sl ((a.getD 39 d0).ll), .b ((a.getD 40 d0).bb), .sl ((a.getD 41 d0).ll)]).bindR fun r3 =>
 if (!((r3.getD 0 d0).bb)) = true then
 .ret [.b false]
 else
 .ret [.b true]
theorem eq_laws_eqItem a : r_laws_eqItem a = E_laws_eqItem a := (Run_eq cfg 122 _ a).trans (by kernel_rfl)
noncomputable def E_laws_heldValueSL1 : List DC → Out := fun v1 =>
 if (decide ((v1.getD 2 d0).ii < (((v1.getD 0 d0).ll).length : Int))) = true then
 Out.andThenB (if 137 = 137 ∧ 0 ≤ (v1.getD 2 d0).ii ∧ (v1.getD 2 d0).ii < (((v1.getD 0 d0).ll).length : Int) then
 if (((((v1.getD 0 d0).ll).getD ((v1.getD 2 d0).ii).toNat []).getD 0 d0).ii != (v1.getD 1 d0).ii) = true then
 .ret [.i (-1 : Int)]
 else
 if 137 = 137 ∧ 0 ≤ (v1.getD 2 d0).ii ∧ (v1.getD 2 d0).ii < (((v1.getD 0 d0).ll).length : Int) then
 (r_laws_markText [.i (IntKind.i64.wrap ((v1.getD 1 d0).ii + (1 : Int)))]).bindR fun r2 =>
 if (!(((((v1.getD 0 d0).ll).getD ((v1.getD 2 d0).ii).toNat []).getD 1 d0).ss == (r2.getD 0 d0).ss)) = true then
 .ret [.i (-1 : Int)]
 else
 if 137 = 137 ∧ 0 ≤ (v1.getD 2 d0).ii ∧ (v1.getD 2 d0).ii < (((v1.getD 0 d0).ll).length : Int) then
 (r_laws_heldValueS [.sl (((((v1.getD 0 d0).ll).getD ((v1.getD 2 d0).ii).toNat []).getD 2 d0).ll), .i (IntKind.i64.wrap ((IntKind.i64.wrap ((v1.getD 1 d0).ii + (1 : Int))) + (1 : Int)))]).bindR fun r3 =>
 if (decide ((r3.getD 0 d0).ii < (0 : Int))) = true then
 .ret [.i (-1 : Int)]
 else
 if 137 = 137 ∧ 0 ≤ (v1.getD 2 d0).ii ∧ (v1.getD 2 d0).ii < (((v1.getD 0 d0).ll).length : Int) then
 (r_laws_heldStringS [.sl (((((v1.getD 0 d0).ll).getD ((v1.getD 2 d0).ii).toNat []).getD 3 d0).ll), .i ((r3.getD 0 d0).ii)]).bindR fun r4 =>
 if (decide ((r4.getD 0 d0).ii < (0 : Int))) = true then
 .ret [.i (-1 : Int)]
 else
 .norm [.sl ((v1.getD 0 d0).ll), .i ((r4.getD 0 d0).ii), .i ((v1.getD 2 d0).ii)]
 else
 .fail
 else
 .fail
 else
 .fail
 else
 .fail) 1 fun v5 =>
 .norm [.sl ((v5.getD 0 d0).ll), .i ((v5.getD 1 d0).ii), .i (IntKind.i64.wrap ((v5.getD 2 d0).ii + (1 : Int)))]
 else
 .ex 0 [.i ((v1.getD 1 d0).ii)]
noncomputable def E_laws_heldValueS (a : List DC) : Out :=
 Out.andThenB (Loop E_laws_heldValueSL1 [.sl ((a.getD 0 d0).ll), .i ((a.getD 1 d0).ii), .i (0 : Int)]) 0 fun v6 =>
 .ret [.i ((v6.getD 0 d0).ii)]
theorem eq_laws_heldValueS a : r_laws_heldValueS a = E_laws_heldValueS a := (Run_eq cfg 99 _ a).trans (by kernel_rfl)
noncomputable def E_laws_heldArgSL1 : List DC → Out := fun v1 =>
 if (decide ((v1.getD 2 d0).ii < (((v1.getD 0 d0).ll).length : Int))) = true then
 Out.andThenB (if 184 = 184 ∧ 0 ≤ (v1.getD 2 d0).ii ∧ (v1.getD 2 d0).ii < (((v1.getD 0 d0).ll).length : Int) then
 (r_laws_markText [.i ((v1.getD 1 d0).ii)]).bindR fun r2 =>
 if (!(((((v1.getD 0 d0).ll).getD ((v1.getD 2 d0).ii).toNat []).getD 0 d0).ss == (r2.getD 0 d0).ss)) = true then
 .ret [.i (-1 : Int)]
 else
 if 184 = 184 ∧ 0 ≤ (v1.getD 2 d0).ii ∧ (v1.getD 2 d0).ii < (((v1.getD 0 d0).ll).length : Int) then
 if (((((v1.getD 0 d0).ll).getD ((v1.getD 2 d0).ii).toNat []).getD 1 d0).ii != (IntKind.i64.wrap ((v1.getD 1 d0).ii + (1 : Int)))) = true then
 .ret [.i (-1 : Int)]
 else
 if 184 = 184 ∧ 0 ≤ (v1.getD 2 d0).ii ∧ (v1.getD 2 d0).ii < (((v1.getD 0 d0).ll).length : Int) then
 (r_laws_markText [.i (IntKind.i64.wrap ((IntKind.i64.wrap ((v1.getD 1 d0).ii + (1 : Int))) + (1 : Int)))]).bindR fun r3 =>
 if (!(((((v1.getD 0 d0).ll).getD ((v1.getD 2 d0).ii).toNat []).getD 2 d0).ss == (r3.getD 0 d0).ss)) = true then
 .ret [.i (-1 : Int)]
 else
 if 184 = 184 ∧ 0 ≤ (v1.getD 2 d0).ii ∧ (v1.getD 2 d0).ii < (((v1.getD 0 d0).ll).length : Int) then
 (r_laws_heldValueS [.sl (((((v1.getD 0 d0).ll).getD ((v1.getD 2 d0).ii).toNat []).getD 3 d0).ll), .i (IntKind.i64.wrap ((IntKind.i64.wrap ((IntKind.i64.wrap ((v1.getD 1 d0).ii + (1 : Int))) + (1 : Int))) + (1 : Int)))]).bindR fun r4 =>
 if (decide ((r4.getD 0 d0).ii < (0 : Int))) = true then
 .ret [.i (-1 : Int)]
 else
 if 184 = 184 ∧ 0 ≤ (v1.getD 2 d0).ii ∧ (v1.getD 2 d0).ii < (((v1.getD 0 d0).ll).length : Int) then
 (r_laws_heldStringS [.sl (((((v1.getD 0 d0).ll).getD ((v1.getD 2 d0).ii).toNat []).getD 4 d0).ll), .i ((r4.getD 0 d0).ii)]).bindR fun r5 =>
 if (decide ((r5.getD 0 d0).ii < (0 : Int))) = true then
 .ret [.i (-1 : Int)]
 else
 .norm [.sl ((v1.getD 0 d0).ll), .i ((r5.getD 0 d0).ii), .i ((v1.getD 2 d0).ii)]
 else
 .fail
 else
 .fail
 else
 .fail
 else
 .fail
 else
 .fail) 1 fun v6 =>
 .norm [.sl ((v6.getD 0 d0).ll), .i ((v6.getD 1 d0).ii), .i (IntKind.i64.wrap ((v6.getD 2 d0).ii + (1 : Int)))]
 else
 .ex 0 [.i ((v1.getD 1 d0).ii)]
noncomputable def E_laws_heldArgS (a : List DC) : Out :=
 Out.andThenB (Loop E_laws_heldArgSL1 [.sl ((a.getD 0 d0).ll), .i ((a.getD 1 d0).ii), .i (0 : Int)]) 0 fun v7 =>
 .ret [.i ((v7.getD 0 d0).ii)]
theorem eq_laws_heldArgS a : r_laws_heldArgS a = E_laws_heldArgS a := (Run_eq cfg 100 _ a).trans (by kernel_rfl)
noncomputable def E_laws_szOp (a : List DC) : Out :=
 if (decide ((IntKind.i64.wrap ((a.getD 5 d0).ii - (((a.getD 1 d0).ss).length : Int))) < (0 : Int))) = true then
 .ret [.i (-1 : Int)]
 else
 (r_laws_szVarDefS [.sl ((a.getD 2 d0).ll), .i (IntKind.i64.wrap ((a.getD 5 d0).ii - (((a.getD 1 d0).ss).length : Int)))]).bindR fun r1 =>
 if (decide ((r1.getD 0 d0).ii < (0 : Int))) = true then
 .ret [.i (-1 : Int)]
 else
 (r_laws_szDirS [.sl ((a.getD 3 d0).ll), .i ((r1.getD 0 d0).ii)]).bindR fun r2 =>
 if (decide ((r2.getD 0 d0).ii < (0 : Int))) = true then
 .ret [.i (-1 : Int)]
 else
 (r_laws_szSelS [.sl ((a.getD 4 d0).ll), .i ((r2.getD 0 d0).ii)]).bindR fun r3 =>
 if (decide ((r3.getD 0 d0).ii < (0 : Int))) = true then
 .ret [.i (-1 : Int)]
 else
 .ret [.i ((r3.getD 0 d0).ii)]
theorem eq_laws_szOp a : r_laws_szOp a = E_laws_szOp a := (Run_eq cfg 146 _ a).trans (by kernel_rfl)
noncomputable def E_laws_szFrag (a : List DC) : Out :=
 if (decide ((IntKind.i64.wrap ((a.getD 4 d0).ii - (((a.getD 0 d0).ss).length : Int))) < (0 : Int))) = true then
 .ret [.i (-1 : Int)]
 else
 if (decide ((IntKind.i64.wrap ((IntKind.i64.wrap ((a.getD 4 d0).ii - (((a.getD 0 d0).ss).length : Int))) - (((a.getD 1 d0).ss).length : Int))) < (0 : Int))) = true then
 .ret [.i (-1 : Int)]
 else
 (r_laws_szDirS [.sl ((a.getD 2 d0).ll), .i (IntKind.i64.wrap ((IntKind.i64.wrap ((a.getD 4 d0).ii - (((a.getD 0 d0).ss).length : Int))) - (((a.getD 1 d0).ss).length : Int)))]).bindR fun r1 =>
 if (decide ((r1.getD 0 d0).ii < (0 : Int))) = true then
 .ret [.i (-1 : Int)]
 else
 (r_laws_szSelS [.sl ((a.getD 3 d0).ll), .i ((r1.getD 0 d0).ii)]).bindR fun r2 =>
 if (decide ((r2.getD 0 d0).ii < (0 : Int))) = true then
 .ret [.i (-1 : Int)]
 else
 .ret [.i ((r2.getD 0 d0).ii)]
theorem eq_laws_szFrag a : r_laws_szFrag a = E_laws_szFrag a := (Run_eq cfg 147 _ a).trans (by kernel_rfl)
noncomputable def E_laws_szDef (a : List DC) : Out :=
 if (decide ((IntKind.i64.wrap ((a.getD 11 d0).ii - (((a.getD 2 d0).ss).length : Int))) < (0 : Int))) = true then
 .ret [.i (-1 : Int)]
 else
 if (decide ((IntKind.i64.wrap ((IntKind.i64.wrap ((a.getD 11 d0).ii - (((a.getD 2 d0).ss).length : Int))) - (((a.getD 3 d0).ss).length : Int))) < (0 : Int))) = true then
 .ret [.i (-1 : Int)]
 else
 (r_laws_szStringS [.sl ((a.getD 4 d0).ll), .i (IntKind.i64.wrap ((IntKind.i64.wrap ((a.getD 11 d0).ii - (((a.getD 2 d0).ss).length : Int))) - (((a.getD 3 d0).ss).length : Int)))]).bindR fun r1 =>
 if (decide ((r1.getD 0 d0).ii < (0 : Int))) = true then
 .ret [.i (-1 : Int)]
 else
 (r_laws_szFieldDefS [.sl ((a.getD 5 d0).ll), .i ((r1.getD 0 d0).ii)]).bindR fun r2 =>
 if (decide ((r2.getD 0 d0).ii < (0 : Int))) = true then
 .ret [.i (-1 : Int)]
 else
 (r_laws_szInDefS [.sl ((a.getD 6 d0).ll), .i ((r2.getD 0 d0).ii)]).bindR fun r3 =>
 if (decide ((r3.getD 0 d0).ii < (0 : Int))) = true then
 .ret [.i (-1 : Int)]
 else
 (r_laws_szEnumDefS [.sl ((a.getD 7 d0).ll), .i ((r3.getD 0 d0).ii)]).bindR fun r4 =>
 if (decide ((r4.getD 0 d0).ii < (0 : Int))) = true then
 .ret [.i (-1 : Int)]
 else
 (r_laws_szRootS [.sl ((a.getD 8 d0).ll), .i ((r4.getD 0 d0).ii)]).bindR fun r5 =>
 if (decide ((r5.getD 0 d0).ii < (0 : Int))) = true then
 .ret [.i (-1 : Int)]
 else
 (r_laws_szDirS [.sl ((a.getD 10 d0).ll), .i ((r5.getD 0 d0).ii)]).bindR fun r6 =>
 if (decide ((r6.getD 0 d0).ii < (0 : Int))) = true then
 .ret [.i (-1 : Int)]
 else
 .ret [.i ((r6.getD 0 d0).ii)]
theorem eq_laws_szDef a : r_laws_szDef a = E_laws_szDef a := (Run_eq cfg 66 _ a).trans (by kernel_rfl)
noncomputable def E_laws_toOp (a : List DC) : Out :=
 (r_laws_toVarDefS [.sl ((a.getD 2 d0).ll)]).bindR fun r1 =>
 (r_laws_toDirS [.sl ((a.getD 3 d0).ll)]).bindR fun r2 =>
 (r_laws_toSelS [.sl ((a.getD 4 d0).ll)]).bindR fun r3 =>
 .ret [.i ((a.getD 0 d0).ii), .s ((a.getD 1 d0).ss), .sl ((r1.getD 0 d0).ll), .sl ((r2.getD 0 d0).ll), .sl ((r3.getD 0 d0).ll)]
theorem eq_laws_toOp a : r_laws_toOp a = E_laws_toOp a := (Run_eq cfg 148 _ a).trans (by kernel_rfl)
noncomputable def E_laws_toFrag (a : List DC) : Out :=
 (r_laws_toDirS [.sl ((a.getD 2 d0).ll)]).bindR fun r1 =>
 (r_laws_toSelS [.sl ((a.getD 3 d0).ll)]).bindR fun r2 =>
 .ret [.s ((a.getD 0 d0).ss), .s ((a.getD 1 d0).ss), .sl ((r1.getD 0 d0).ll), .sl ((r2.getD 0 d0).ll)]
theorem eq_laws_toFrag a : r_laws_toFrag a = E_laws_toFrag a := (Run_eq cfg 149 _ a).trans (by kernel_rfl)
noncomputable def E_laws_toDef (a : List DC) : Out :=
 (r_laws_toStringS [.sl ((a.getD 4 d0).ll)]).bindR fun r1 =>
 (r_laws_toFieldDefS [.sl ((a.getD 5 d0).ll)]).bindR fun r2 =>
 (r_laws_toInDefS [.sl ((a.getD 6 d0).ll)]).bindR fun r3 =>
 (r_laws_toEnumDefS [.sl ((a.getD 7 d0).ll)]).bindR fun r4 =>
 (r_laws_toRootS [.sl ((a.getD 8 d0).ll)]).bindR fun r5 =>
 (r_laws_toDirS [.sl ((a.getD 10 d0).ll)]).bindR fun r6 =>
 .ret [.i ((a.getD 0 d0).ii), .b ((a.getD 1 d0).bb), .s ((a.getD 2 d0).ss), .s ((a.getD 3 d0).ss), .sl ((r1.getD 0 d0).ll), .sl ((r2.getD 0 d0).ll), .sl ((r3.getD 0 d0).ll), .sl ((r4.getD 0 d0).ll), .sl ((r5.getD 0 d0).ll), .b ((a.getD 9 d0).bb), .sl ((r6.getD 0 d0).ll)]
theorem eq_laws_toDef a : r_laws_toDef a = E_laws_toDef a := (Run_eq cfg 70 _ a).trans (by kernel_rfl)
noncomputable def E_spec_l07CopyL1 : List DC → Out := fun v4 =>
 if (decide ((v4.getD 0 d0).ii < (((v4.getD 3 d0).ll).length : Int))) = true then
 Out.andThenB (if 137 = 137 ∧ 0 ≤ (v4.getD 0 d0).ii ∧ (v4.getD 0 d0).ii < (((v4.getD 3 d0).ll).length : Int) then
 (r_spec_l07Copy [.i (((((v4.getD 3 d0).ll).getD ((v4.getD 0 d0).ii).toNat []).getD 0 d0).ii), .s (((((v4.getD 3 d0).ll).getD ((v4.getD 0 d0).ii).toNat []).getD 1 d0).ss), .sl (((((v4.getD 3 d0).ll).getD ((v4.getD 0 d0).ii).toNat []).getD 2 d0).ll), .sl (((((v4.getD 3 d0).ll).getD ((v4.getD 0 d0).ii).toNat []).getD 3 d0).ll)]).bindR fun r5 =>
 if ((v4.getD 9 d0).ll).length + [[DC.i ((r5.getD 0 d0).ii), DC.s ((r5.getD 1 d0).ss), DC.sl ((r5.getD 2 d0).ll), DC.sl ((r5.getD 3 d0).ll)]].length < LIM ∧ 135 = 135 then
 .norm [.i ((v4.getD 0 d0).ii), .i ((v4.getD 1 d0).ii), .s ((v4.getD 2 d0).ss), .sl ((v4.getD 3 d0).ll), .sl ((v4.getD 4 d0).ll), .i ((v4.getD 5 d0).ii), .s ((v4.getD 6 d0).ss), .i ((v4.getD 7 d0).ii), .s ((v4.getD 8 d0).ss), .sl (((v4.getD 9 d0).ll) ++ [[DC.i ((r5.getD 0 d0).ii), DC.s ((r5.getD 1 d0).ss), DC.sl ((r5.getD 2 d0).ll), DC.sl ((r5.getD 3 d0).ll)]]), .sl ((v4.getD 10 d0).ll)]
 else
 .fail
 else
 .fail) 1 fun v6 =>
 .norm [.i (IntKind.i64.wrap ((v6.getD 0 d0).ii + (1 : Int))), .i ((v6.getD 1 d0).ii), .s ((v6.getD 2 d0).ss), .sl ((v6.getD 3 d0).ll), .sl ((v6.getD 4 d0).ll), .i ((v6.getD 5 d0).ii), .s ((v6.getD 6 d0).ss), .i ((v6.getD 7 d0).ii), .s ((v6.getD 8 d0).ss), .sl ((v6.getD 9 d0).ll), .sl ((v6.getD 10 d0).ll)]
 else
 .ex 0 [.i ((v4.getD 5 d0).ii), .s ((v4.getD 6 d0).ss), .i ((v4.getD 7 d0).ii), .s ((v4.getD 8 d0).ss), .sl ((v4.getD 9 d0).ll), .sl ((v4.getD 10 d0).ll)]
noncomputable def E_spec_l07Copy (a : List DC) : Out :=
 if ([] : List (List DC)).length + ((a.getD 3 d0).ll).length < LIM then
 Out.andThenB (Loop E_spec_l07CopyL1 [.i (0 : Int), .i ((a.getD 0 d0).ii), .s ((a.getD 1 d0).ss), .sl ((a.getD 2 d0).ll), .sl ((a.getD 3 d0).ll), .i (0 : Int), .s [], .i ((a.getD 0 d0).ii), .s ((a.getD 1 d0).ss), .sl [], .sl (([] : List (List DC)) ++ ((a.getD 3 d0).ll))]) 0 fun v7 =>
 .ret [.i ((v7.getD 2 d0).ii), .s ((v7.getD 3 d0).ss), .sl ((v7.getD 4 d0).ll), .sl ((v7.getD 5 d0).ll)]
 else
 .fail
theorem eq_spec_l07Copy a : r_spec_l07Copy a = E_spec_l07Copy a := (Run_eq cfg 126 _ a).trans (by kernel_rfl)
noncomputable def E_spec_l10ArgsL1 : List DC → Out := fun v1 =>
 if (decide ((v1.getD 2 d0).ii < (((v1.getD 0 d0).ll).length : Int))) = true then
 Out.andThenB (if 184 = 184 ∧ 0 ≤ (v1.getD 2 d0).ii ∧ (v1.getD 2 d0).ii < (((v1.getD 0 d0).ll).length : Int) then
 if 184 = 184 ∧ 0 ≤ (v1.getD 2 d0).ii ∧ (v1.getD 2 d0).ii < (((v1.getD 0 d0).ll).length : Int) then
 (r_spec_l07Copy [.i (((((v1.getD 0 d0).ll).getD ((v1.getD 2 d0).ii).toNat []).getD 1 d0).ii), .s (((((v1.getD 0 d0).ll).getD ((v1.getD 2 d0).ii).toNat []).getD 2 d0).ss), .sl (((((v1.getD 0 d0).ll).getD ((v1.getD 2 d0).ii).toNat []).getD 3 d0).ll), .sl (((((v1.getD 0 d0).ll).getD ((v1.getD 2 d0).ii).toNat []).getD 4 d0).ll)]).bindR fun r2 =>
 if ((v1.getD 1 d0).ll).length + [[DC.s (((((v1.getD 0 d0).ll).getD ((v1.getD 2 d0).ii).toNat []).getD 0 d0).ss), DC.i ((r2.getD 0 d0).ii), DC.s ((r2.getD 1 d0).ss), DC.sl ((r2.getD 2 d0).ll), DC.sl ((r2.getD 3 d0).ll)]].length < LIM ∧ 141 = 141 then
 .norm [.sl ((v1.getD 0 d0).ll), .sl (((v1.getD 1 d0).ll) ++ [[DC.s (((((v1.getD 0 d0).ll).getD ((v1.getD 2 d0).ii).toNat []).getD 0 d0).ss), DC.i ((r2.getD 0 d0).ii), DC.s ((r2.getD 1 d0).ss), DC.sl ((r2.getD 2 d0).ll), DC.sl ((r2.getD 3 d0).ll)]]), .i ((v1.getD 2 d0).ii)]
 else
 .fail
 else
 .fail
 else
 .fail) 1 fun v3 =>
 .norm [.sl ((v3.getD 0 d0).ll), .sl ((v3.getD 1 d0).ll), .i (IntKind.i64.wrap ((v3.getD 2 d0).ii + (1 : Int)))]
 else
 .ex 0 [.sl ((v1.getD 1 d0).ll)]
noncomputable def E_spec_l10Args (a : List DC) : Out :=
 Out.andThenB (Loop E_spec_l10ArgsL1 [.sl ((a.getD 0 d0).ll), .sl [], .i (0 : Int)]) 0 fun v4 =>
 .ret [.sl ((v4.getD 0 d0).ll)]
theorem eq_spec_l10Args a : r_spec_l10Args a = E_spec_l10Args a := (Run_eq cfg 127 _ a).trans (by kernel_rfl)
noncomputable def E_impl_cloneValueL1 : List DC → Out := fun v5 =>
 if (decide ((v5.getD 2 d0).ii < (v5.getD 1 d0).ii)) = true then
 Out.andThenB (if 137 = 137 ∧ 0 ≤ (v5.getD 2 d0).ii ∧ (v5.getD 2 d0).ii < (((v5.getD 0 d0).ll).length : Int) then
 (r_impl_cloneValue [.i (((((v5.getD 0 d0).ll).getD ((v5.getD 2 d0).ii).toNat []).getD 0 d0).ii), .s (((((v5.getD 0 d0).ll).getD ((v5.getD 2 d0).ii).toNat []).getD 1 d0).ss), .sl (((((v5.getD 0 d0).ll).getD ((v5.getD 2 d0).ii).toNat []).getD 2 d0).ll), .sl (((((v5.getD 0 d0).ll).getD ((v5.getD 2 d0).ii).toNat []).getD 3 d0).ll)]).bindR fun r6 =>
 if ((v5.getD 7 d0).ll).length + [[DC.i ((r6.getD 0 d0).ii), DC.s ((r6.getD 1 d0).ss), DC.sl ((r6.getD 2 d0).ll), DC.sl ((r6.getD 3 d0).ll)]].length < LIM ∧ 135 = 135 then
 .norm [.sl ((v5.getD 0 d0).ll), .i ((v5.getD 1 d0).ii), .i ((v5.getD 2 d0).ii), .i ((v5.getD 3 d0).ii), .s ((v5.getD 4 d0).ss), .i ((v5.getD 5 d0).ii), .s ((v5.getD 6 d0).ss), .sl (((v5.getD 7 d0).ll) ++ [[DC.i ((r6.getD 0 d0).ii), DC.s ((r6.getD 1 d0).ss), DC.sl ((r6.getD 2 d0).ll), DC.sl ((r6.getD 3 d0).ll)]]), .sl ((v5.getD 8 d0).ll)]
 else
 .fail
 else
 .fail) 1 fun v7 =>
 .norm [.sl ((v7.getD 0 d0).ll), .i ((v7.getD 1 d0).ii), .i (IntKind.i64.wrap ((v7.getD 2 d0).ii + (1 : Int))), .i ((v7.getD 3 d0).ii), .s ((v7.getD 4 d0).ss), .i ((v7.getD 5 d0).ii), .s ((v7.getD 6 d0).ss), .sl ((v7.getD 7 d0).ll), .sl ((v7.getD 8 d0).ll)]
 else
 .ex 0 [.i ((v5.getD 3 d0).ii), .s ((v5.getD 4 d0).ss), .i ((v5.getD 5 d0).ii), .s ((v5.getD 6 d0).ss), .sl ((v5.getD 7 d0).ll), .sl ((v5.getD 8 d0).ll)]
noncomputable def E_impl_cloneValue (a : List DC) : Out :=
 (r_slices_Clone_string [.sl ((a.getD 3 d0).ll)]).bindR fun r1 =>
 Out.andThenB (Loop E_impl_cloneValueL1 [.sl ((a.getD 2 d0).ll), .i (((a.getD 2 d0).ll).length : Int), .i (0 : Int), .i (0 : Int), .s [], .i ((a.getD 0 d0).ii), .s ((a.getD 1 d0).ss), .sl [], .sl ((r1.getD 0 d0).ll)]) 0 fun v8 =>
 .ret [.i ((v8.getD 2 d0).ii), .s ((v8.getD 3 d0).ss), .sl ((v8.getD 4 d0).ll), .sl ((v8.getD 5 d0).ll)]
theorem eq_impl_cloneValue a : r_impl_cloneValue a = E_impl_cloneValue a := (Run_eq cfg 132 _ a).trans (by kernel_rfl)
noncomputable def E_impl_cloneArgsL1 : List DC → Out := fun v4 =>
 if (decide ((v4.getD 3 d0).ii < (v4.getD 2 d0).ii)) = true then
 Out.andThenB (if 184 = 184 ∧ 0 ≤ (v4.getD 3 d0).ii ∧ (v4.getD 3 d0).ii < (((v4.getD 1 d0).ll).length : Int) then
 (r_impl_cloneValue [.i (((((v4.getD 1 d0).ll).getD ((v4.getD 3 d0).ii).toNat []).getD 1 d0).ii), .s (((((v4.getD 1 d0).ll).getD ((v4.getD 3 d0).ii).toNat []).getD 2 d0).ss), .sl (((((v4.getD 1 d0).ll).getD ((v4.getD 3 d0).ii).toNat []).getD 3 d0).ll), .sl (((((v4.getD 1 d0).ll).getD ((v4.getD 3 d0).ii).toNat []).getD 4 d0).ll)]).bindR fun r5 =>
 if ((v4.getD 0 d0).ll).length + [[DC.s (((((v4.getD 1 d0).ll).getD ((v4.getD 3 d0).ii).toNat []).getD 0 d0).ss), DC.i ((r5.getD 0 d0).ii), DC.s ((r5.getD 1 d0).ss), DC.sl ((r5.getD 2 d0).ll), DC.sl ((r5.getD 3 d0).ll)]].length < LIM ∧ 141 = 141 then
 .norm [.sl (((v4.getD 0 d0).ll) ++ [[DC.s (((((v4.getD 1 d0).ll).getD ((v4.getD 3 d0).ii).toNat []).getD 0 d0).ss), DC.i ((r5.getD 0 d0).ii), DC.s ((r5.getD 1 d0).ss), DC.sl ((r5.getD 2 d0).ll), DC.sl ((r5.getD 3 d0).ll)]]), .sl ((v4.getD 1 d0).ll), .i ((v4.getD 2 d0).ii), .i ((v4.getD 3 d0).ii)]
 else
 .fail
 else
 .fail) 1 fun v6 =>
 .norm [.sl ((v6.getD 0 d0).ll), .sl ((v6.getD 1 d0).ll), .i ((v6.getD 2 d0).ii), .i (IntKind.i64.wrap ((v6.getD 3 d0).ii + (1 : Int)))]
 else
 .ex 0 [.sl ((v4.getD 0 d0).ll)]
noncomputable def E_impl_cloneArgs (a : List DC) : Out :=
 Out.andThenB (Loop E_impl_cloneArgsL1 [.sl [], .sl ((a.getD 0 d0).ll), .i (((a.getD 0 d0).ll).length : Int), .i (0 : Int)]) 0 fun v7 =>
 .ret [.sl ((v7.getD 0 d0).ll)]
theorem eq_impl_cloneArgs a : r_impl_cloneArgs a = E_impl_cloneArgs a := (Run_eq cfg 133 _ a).trans (by kernel_rfl)
noncomputable def E_laws_eqFieldDef (a : List DC) : Out :=
 if (!((a.getD 0 d0).ss == (a.getD 6 d0).ss)) = true then
 .ret [.b false]
 else
 if (!((a.getD 1 d0).ss == (a.getD 7 d0).ss)) = true then
 .ret [.b false]
 else
 (r_laws_eqInDefS [.sl ((a.getD 2 d0).ll), .sl ((a.getD 8 d0).ll)]).bindR fun r1 =>
 if (!((r1.getD 0 d0).bb)) = true then
 .ret [.b false]
 else
 (r_laws_eqType [.s ((a.getD 3 d0).ss), .s ((a.getD 4 d0).ss), .s ((a.getD 9 d0).ss), .s ((a.getD 10 d0).ss)]).bindR fun r2 =>
 if (!((r2.getD 0 d0).bb)) = true then
 .ret [.b false]
 else
 (r_laws_eqDirS [.sl ((a.getD 5 d0).ll), .sl ((a.getD 11 d0).ll)]).bindR fun r3 =>
 if (!((r3.getD 0 d0).bb)) = true then
 .ret [.b false]
 else
 .ret [.b true]
theorem eq_laws_eqFieldDef a : r_laws_eqFieldDef a = E_laws_eqFieldDef a := (Run_eq cfg 11 _ a).trans (by kernel_rfl)
noncomputable def E_laws_eqInDef (a : List DC) : Out :=
 if (!((a.getD 0 d0).ss == (a.getD 10 d0).ss)) = true then
 .ret [.b false]
 else
 if (!((a.getD 1 d0).ss == (a.getD 11 d0).ss)) = true then
 .ret [.b false]
 else
 (r_laws_eqType [.s ((a.getD 2 d0).ss), .s ((a.getD 3 d0).ss), .s ((a.getD 12 d0).ss), .s ((a.getD 13 d0).ss)]).bindR fun r1 =>
 if (!((r1.getD 0 d0).bb)) = true then
 .ret [.b false]
 else
 if (!((a.getD 4 d0).bb == (a.getD 14 d0).bb)) = true then
 .ret [.b false]
 else
 (r_laws_eqValue [.i ((a.getD 5 d0).ii), .s ((a.getD 6 d0).ss), .sl ((a.getD 7 d0).ll), .sl ((a.getD 8 d0).ll), .i ((a.getD 15 d0).ii), .s ((a.getD 16 d0).ss), .sl ((a.getD 17 d0).ll), .sl ((a.getD 18 d0).ll)]).bindR fun r2 =>
 if (!((r2.getD 0 d0).bb)) = true then
 .ret [.b false]
 else
 (r_laws_eqDirS [.sl ((a.getD 9 d0).ll), .sl ((a.getD 19 d0).ll)]).bindR fun r3 =>
 if (!((r3.getD 0 d0).bb)) = true then
 .ret [.b false]
 else
 .ret [.b true]
theorem eq_laws_eqInDef a : r_laws_eqInDef a = E_laws_eqInDef a := (Run_eq cfg 94 _ a).trans (by kernel_rfl)
noncomputable def E_laws_eqEnumDef (a : List DC) : Out :=
 if (!((a.getD 0 d0).ss == (a.getD 3 d0).ss)) = true then
 .ret [.b false]
 else
 if (!((a.getD 1 d0).ss == (a.getD 4 d0).ss)) = true then
 .ret [.b false]
 else
 (r_laws_eqDirS [.sl ((a.getD 2 d0).ll), .sl ((a.getD 5 d0).ll)]).bindR fun r1 =>
 if (!((r1.getD 0 d0).bb)) = true then
 .ret [.b false]
 else
 .ret [.b true]
theorem eq_laws_eqEnumDef a : r_laws_eqEnumDef a = E_laws_eqEnumDef a := (Run_eq cfg 108 _ a).trans (by kernel_rfl)
noncomputable def E_laws_eqRoot (a : List DC) : Out :=
 if ((a.getD 0 d0).ii != (a.getD 2 d0).ii) = true then
 .ret [.b false]
 else
 if (!((a.getD 1 d0).ss == (a.getD 3 d0).ss)) = true then
 .ret [.b false]
 else
 .ret [.b true]
theorem eq_laws_eqRoot a : r_laws_eqRoot a = E_laws_eqRoot a := (Run_eq cfg 96 _ a).trans (by kernel_rfl)
noncomputable def E_laws_eqDir (a : List DC) : Out :=
 if (!((a.getD 0 d0).ss == (a.getD 2 d0).ss)) = true then
 .ret [.b false]
 else
 (r_laws_eqArgS [.sl ((a.getD 1 d0).ll), .sl ((a.getD 3 d0).ll)]).bindR fun r1 =>
 if (!((r1.getD 0 d0).bb)) = true then
 .ret [.b false]
 else
 .ret [.b true]
theorem eq_laws_eqDir a : r_laws_eqDir a = E_laws_eqDir a := (Run_eq cfg 95 _ a).trans (by kernel_rfl)
noncomputable def E_laws_eqOp (a : List DC) : Out :=
 if ((a.getD 0 d0).ii != (a.getD 5 d0).ii) = true then
 .ret [.b false]
 else
 if (!((a.getD 1 d0).ss == (a.getD 6 d0).ss)) = true then
 .ret [.b false]
 else
 (r_laws_eqVarDefS [.sl ((a.getD 2 d0).ll), .sl ((a.getD 7 d0).ll)]).bindR fun r1 =>
 if (!((r1.getD 0 d0).bb)) = true then
 .ret [.b false]
 else
 (r_laws_eqDirS [.sl ((a.getD 3 d0).ll), .sl ((a.getD 8 d0).ll)]).bindR fun r2 =>
 if (!((r2.getD 0 d0).bb)) = true then
 .ret [.b false]
 else
 (r_laws_eqSelS [.sl ((a.getD 4 d0).ll), .sl ((a.getD 9 d0).ll)]).bindR fun r3 =>
 if (!((r3.getD 0 d0).bb)) = true then
 .ret [.b false]
 else
 .ret [.b true]
theorem eq_laws_eqOp a : r_laws_eqOp a = E_laws_eqOp a := (Run_eq cfg 150 _ a).trans (by kernel_rfl)
noncomputable def E_laws_eqFrag (a : List DC) : Out :=
 if (!((a.getD 0 d0).ss == (a.getD 4 d0).ss)) = true then
 .ret [.b false]
 else
 if (!((a.getD 1 d0).ss == (a.getD 5 d0).ss)) = true then
 .ret [.b false]
 else
 (r_laws_eqDirS [.sl ((a.getD 2 d0).ll), .sl ((a.getD 6 d0).ll)]).bindR fun r1 =>
 if (!((r1.getD 0 d0).bb)) = true then
 .ret [.b false]
 else
 (r_laws_eqSelS [.sl ((a.getD 3 d0).ll), .sl ((a.getD 7 d0).ll)]).bindR fun r2 =>
 if (!((r2.getD 0 d0).bb)) = true then
 .ret [.b false]
 else
 .ret [.b true]
theorem eq_laws_eqFrag a : r_laws_eqFrag a = E_laws_eqFrag a := (Run_eq cfg 151 _ a).trans (by kernel_rfl)
noncomputable def E_laws_szVarDefSL1 : List DC → Out := fun v1 =>
 if (decide ((v1.getD 2 d0).ii < (((v1.getD 0 d0).ll).length : Int))) = true then
 Out.andThenB (if 240 = 240 ∧ 0 ≤ (v1.getD 2 d0).ii ∧ (v1.getD 2 d0).ii < (((v1.getD 0 d0).ll).length : Int) then
 (r_laws_szVarDef [.s (((((v1.getD 0 d0).ll).getD ((v1.getD 2 d0).ii).toNat []).getD 0 d0).ss), .s (((((v1.getD 0 d0).ll).getD ((v1.getD 2 d0).ii).toNat []).getD 1 d0).ss), .s (((((v1.getD 0 d0).ll).getD ((v1.getD 2 d0).ii).toNat []).getD 2 d0).ss), .b (((((v1.getD 0 d0).ll).getD ((v1.getD 2 d0).ii).toNat []).getD 3 d0).bb), .i (((((v1.getD 0 d0).ll).getD ((v1.getD 2 d0).ii).toNat []).getD 4 d0).ii), .s (((((v1.getD 0 d0).ll).getD ((v1.getD 2 d0).ii).toNat []).getD 5 d0).ss), .sl (((((v1.getD 0 d0).ll).getD ((v1.getD 2 d0).ii).toNat []).getD 6 d0).ll), .sl (((((v1.getD 0 d0).ll).getD ((v1.getD 2 d0).ii).toNat []).getD 7 d0).ll), .sl (((((v1.getD 0 d0).ll).getD ((v1.getD 2 d0).ii).toNat []).getD 8 d0).ll), .i ((v1.getD 1 d0).ii)]).bindR fun r2 =>
 if (decide ((r2.getD 0 d0).ii < (0 : Int))) = true then
 .ret [.i (-1 : Int)]
 else
 .norm [.sl ((v1.getD 0 d0).ll), .i ((r2.getD 0 d0).ii), .i ((v1.getD 2 d0).ii)]
 else
 .fail) 1 fun v3 =>
 .norm [.sl ((v3.getD 0 d0).ll), .i ((v3.getD 1 d0).ii), .i (IntKind.i64.wrap ((v3.getD 2 d0).ii + (1 : Int)))]
 else
 .ex 0 [.i ((v1.getD 1 d0).ii)]
noncomputable def E_laws_szVarDefS (a : List DC) : Out :=
 if (decide ((IntKind.i64.wrap ((a.getD 1 d0).ii - (((a.getD 0 d0).ll).length : Int))) < (0 : Int))) = true then
 .ret [.i (-1 : Int)]
 else
 Out.andThenB (Loop E_laws_szVarDefSL1 [.sl ((a.getD 0 d0).ll), .i (IntKind.i64.wrap ((a.getD 1 d0).ii - (((a.getD 0 d0).ll).length : Int))), .i (0 : Int)]) 0 fun v4 =>
 .ret [.i ((v4.getD 0 d0).ii)]
theorem eq_laws_szVarDefS a : r_laws_szVarDefS a = E_laws_szVarDefS a := (Run_eq cfg 162 _ a).trans (by kernel_rfl)
noncomputable def E_laws_szDirSL1 : List DC → Out := fun v1 =>
 if (decide ((v1.getD 2 d0).ii < (((v1.getD 0 d0).ll).length : Int))) = true then
 Out.andThenB (if 202 = 202 ∧ 0 ≤ (v1.getD 2 d0).ii ∧ (v1.getD 2 d0).ii < (((v1.getD 0 d0).ll).length : Int) then
 (r_laws_szDir [.s (((((v1.getD 0 d0).ll).getD ((v1.getD 2 d0).ii).toNat []).getD 0 d0).ss), .sl (((((v1.getD 0 d0).ll).getD ((v1.getD 2 d0).ii).toNat []).getD 1 d0).ll), .i ((v1.getD 1 d0).ii)]).bindR fun r2 =>
 if (decide ((r2.getD 0 d0).ii < (0 : Int))) = true then
 .ret [.i (-1 : Int)]
 else
 .norm [.sl ((v1.getD 0 d0).ll), .i ((r2.getD 0 d0).ii), .i ((v1.getD 2 d0).ii)]
 else
 .fail) 1 fun v3 =>
 .norm [.sl ((v3.getD 0 d0).ll), .i ((v3.getD 1 d0).ii), .i (IntKind.i64.wrap ((v3.getD 2 d0).ii + (1 : Int)))]
 else
 .ex 0 [.i ((v1.getD 1 d0).ii)]
noncomputable def E_laws_szDirS (a : List DC) : Out :=
 if (decide ((IntKind.i64.wrap ((a.getD 1 d0).ii - (((a.getD 0 d0).ll).length : Int))) < (0 : Int))) = true then
 .ret [.i (-1 : Int)]
 else
 Out.andThenB (Loop E_laws_szDirSL1 [.sl ((a.getD 0 d0).ll), .i (IntKind.i64.wrap ((a.getD 1 d0).ii - (((a.getD 0 d0).ll).length : Int))), .i (0 : Int)]) 0 fun v4 =>
 .ret [.i ((v4.getD 0 d0).ii)]
theorem eq_laws_szDirS a : r_laws_szDirS a = E_laws_szDirS a := (Run_eq cfg 113 _ a).trans (by kernel_rfl)
noncomputable def E_laws_szSelSL1 : List DC → Out := fun v1 =>
 if (decide ((v1.getD 2 d0).ii < (((v1.getD 0 d0).ll).length : Int))) = true then
 Out.andThenB (if 243 = 243 ∧ 0 ≤ (v1.getD 2 d0).ii ∧ (v1.getD 2 d0).ii < (((v1.getD 0 d0).ll).length : Int) then
 (r_laws_szSel [.i (((((v1.getD 0 d0).ll).getD ((v1.getD 2 d0).ii).toNat []).getD 0 d0).ii), .s (((((v1.getD 0 d0).ll).getD ((v1.getD 2 d0).ii).toNat []).getD 1 d0).ss), .s (((((v1.getD 0 d0).ll).getD ((v1.getD 2 d0).ii).toNat []).getD 2 d0).ss), .s (((((v1.getD 0 d0).ll).getD ((v1.getD 2 d0).ii).toNat []).getD 3 d0).ss), .sl (((((v1.getD 0 d0).ll).getD ((v1.getD 2 d0).ii).toNat []).getD 4 d0).ll), .sl (((((v1.getD 0 d0).ll).getD ((v1.getD 2 d0).ii).toNat []).getD 5 d0).ll), .sl (((((v1.getD 0 d0).ll).getD ((v1.getD 2 d0).ii).toNat []).getD 6 d0).ll), .i ((v1.getD 1 d0).ii)]).bindR fun r2 =>
 if (decide ((r2.getD 0 d0).ii < (0 : Int))) = true then
 .ret [.i (-1 : Int)]
 else
 .norm [.sl ((v1.getD 0 d0).ll), .i ((r2.getD 0 d0).ii), .i ((v1.getD 2 d0).ii)]
 else
 .fail) 1 fun v3 =>
 .norm [.sl ((v3.getD 0 d0).ll), .i ((v3.getD 1 d0).ii), .i (IntKind.i64.wrap ((v3.getD 2 d0).ii + (1 : Int)))]
 else
 .ex 0 [.i ((v1.getD 1 d0).ii)]
noncomputable def E_laws_szSelS (a : List DC) : Out :=
 if (decide ((IntKind.i64.wrap ((a.getD 1 d0).ii - (((a.getD 0 d0).ll).length : Int))) < (0 : Int))) = true then
 .ret [.i (-1 : Int)]
 else
 Out.andThenB (Loop E_laws_szSelSL1 [.sl ((a.getD 0 d0).ll), .i (IntKind.i64.wrap ((a.getD 1 d0).ii - (((a.getD 0 d0).ll).length : Int))), .i (0 : Int)]) 0 fun v4 =>
 .ret [.i ((v4.getD 0 d0).ii)]
theorem eq_laws_szSelS a : r_laws_szSelS a = E_laws_szSelS a := (Run_eq cfg 163 _ a).trans (by kernel_rfl)
noncomputable def E_laws_szStringSL1 : List DC → Out := fun v1 =>
 if (decide ((v1.getD 2 d0).ii < (((v1.getD 0 d0).ll).length : Int))) = true then
 Out.andThenB (if 9 = 9 ∧ 0 ≤ (v1.getD 2 d0).ii ∧ (v1.getD 2 d0).ii < (((v1.getD 0 d0).ll).length : Int) then
 if (decide ((IntKind.i64.wrap ((v1.getD 1 d0).ii - ((((((v1.getD 0 d0).ll).getD ((v1.getD 2 d0).ii).toNat []).getD 0 d0).ss).length : Int))) < (0 : Int))) = true then
 .ret [.i (-1 : Int)]
 else
 .norm [.sl ((v1.getD 0 d0).ll), .i (IntKind.i64.wrap ((v1.getD 1 d0).ii - ((((((v1.getD 0 d0).ll).getD ((v1.getD 2 d0).ii).toNat []).getD 0 d0).ss).length : Int))), .i ((v1.getD 2 d0).ii)]
 else
 .fail) 1 fun v2 =>
 .norm [.sl ((v2.getD 0 d0).ll), .i ((v2.getD 1 d0).ii), .i (IntKind.i64.wrap ((v2.getD 2 d0).ii + (1 : Int)))]
 else
 .ex 0 [.i ((v1.getD 1 d0).ii)]
noncomputable def E_laws_szStringS (a : List DC) : Out :=
 if (decide ((IntKind.i64.wrap ((a.getD 1 d0).ii - (((a.getD 0 d0).ll).length : Int))) < (0 : Int))) = true then
 .ret [.i (-1 : Int)]
 else
 Out.andThenB (Loop E_laws_szStringSL1 [.sl ((a.getD 0 d0).ll), .i (IntKind.i64.wrap ((a.getD 1 d0).ii - (((a.getD 0 d0).ll).length : Int))), .i (0 : Int)]) 0 fun v3 =>
 .ret [.i ((v3.getD 0 d0).ii)]
theorem eq_laws_szStringS a : r_laws_szStringS a = E_laws_szStringS a := (Run_eq cfg 109 _ a).trans (by kernel_rfl)
noncomputable def E_laws_szFieldDefSL1 : List DC → Out := fun v1 =>
 if (decide ((v1.getD 2 d0).ii < (((v1.getD 0 d0).ll).length : Int))) = true then
 Out.andThenB (if 189 = 189 ∧ 0 ≤ (v1.getD 2 d0).ii ∧ (v1.getD 2 d0).ii < (((v1.getD 0 d0).ll).length : Int) then
 (r_laws_szFieldDef [.s (((((v1.getD 0 d0).ll).getD ((v1.getD 2 d0).ii).toNat []).getD 0 d0).ss), .s (((((v1.getD 0 d0).ll).getD ((v1.getD 2 d0).ii).toNat []).getD 1 d0).ss), .sl (((((v1.getD 0 d0).ll).getD ((v1.getD 2 d0).ii).toNat []).getD 2 d0).ll), .s (((((v1.getD 0 d0).ll).getD ((v1.getD 2 d0).ii).toNat []).getD 3 d0).ss), .s (((((v1.getD 0 d0).ll).getD ((v1.getD 2 d0).ii).toNat []).getD 4 d0).ss), .sl (((((v1.getD 0 d0).ll).getD ((v1.getD 2 d0).ii).toNat []).getD 5 d0).ll), .i ((v1.getD 1 d0).ii)]).bindR fun r2 =>
 if (decide ((r2.getD 0 d0).ii < (0 : Int))) = true then
 .ret [.i (-1 : Int)]
 else
 .norm [.sl ((v1.getD 0 d0).ll), .i ((r2.getD 0 d0).ii), .i ((v1.getD 2 d0).ii)]
 else
 .fail) 1 fun v3 =>
 .norm [.sl ((v3.getD 0 d0).ll), .i ((v3.getD 1 d0).ii), .i (IntKind.i64.wrap ((v3.getD 2 d0).ii + (1 : Int)))]
 else
 .ex 0 [.i ((v1.getD 1 d0).ii)]
noncomputable def E_laws_szFieldDefS (a : List DC) : Out :=
 if (decide ((IntKind.i64.wrap ((a.getD 1 d0).ii - (((a.getD 0 d0).ll).length : Int))) < (0 : Int))) = true then
 .ret [.i (-1 : Int)]
 else
 Out.andThenB (Loop E_laws_szFieldDefSL1 [.sl ((a.getD 0 d0).ll), .i (IntKind.i64.wrap ((a.getD 1 d0).ii - (((a.getD 0 d0).ll).length : Int))), .i (0 : Int)]) 0 fun v4 =>
 .ret [.i ((v4.getD 0 d0).ii)]
theorem eq_laws_szFieldDefS a : r_laws_szFieldDefS a = E_laws_szFieldDefS a := (Run_eq cfg 110 _ a).trans (by kernel_rfl)
noncomputable def E_laws_szInDefSL1 : List DC → Out := fun v1 =>
 if (decide ((v1.getD 2 d0).ii < (((v1.getD 0 d0).ll).length : Int))) = true then
 Out.andThenB (if 195 = 195 ∧ 0 ≤ (v1.getD 2 d0).ii ∧ (v1.getD 2 d0).ii < (((v1.getD 0 d0).ll).length : Int) then
 (r_laws_szInDef [.s (((((v1.getD 0 d0).ll).getD ((v1.getD 2 d0).ii).toNat []).getD 0 d0).ss), .s (((((v1.getD 0 d0).ll).getD ((v1.getD 2 d0).ii).toNat []).getD 1 d0).ss), .s (((((v1.getD 0 d0).ll).getD ((v1.getD 2 d0).ii).toNat []).getD 2 d0).ss), .s (((((v1.getD 0 d0).ll).getD ((v1.getD 2 d0).ii).toNat []).getD 3 d0).ss), .b (((((v1.getD 0 d0).ll).getD ((v1.getD 2 d0).ii).toNat []).getD 4 d0).bb), .i (((((v1.getD 0 d0).ll).getD ((v1.getD 2 d0).ii).toNat []).getD 5 d0).ii), .s (((((v1.getD 0 d0).ll).getD ((v1.getD 2 d0).ii).toNat []).getD 6 d0).ss), .sl (((((v1.getD 0 d0).ll).getD ((v1.getD 2 d0).ii).toNat []).getD 7 d0).ll), .sl (((((v1.getD 0 d0).ll).getD ((v1.getD 2 d0).ii).toNat []).getD 8 d0).ll), .sl (((((v1.getD 0 d0).ll).getD ((v1.getD 2 d0).ii).toNat []).getD 9 d0).ll), .i ((v1.getD 1 d0).ii)]).bindR fun r2 =>
 if (decide ((r2.getD 0 d0).ii < (0 : Int))) = true then
 .ret [.i (-1 : Int)]
 else
 .norm [.sl ((v1.getD 0 d0).ll), .i ((r2.getD 0 d0).ii), .i ((v1.getD 2 d0).ii)]
 else
 .fail) 1 fun v3 =>
 .norm [.sl ((v3.getD 0 d0).ll), .i ((v3.getD 1 d0).ii), .i (IntKind.i64.wrap ((v3.getD 2 d0).ii + (1 : Int)))]
 else
 .ex 0 [.i ((v1.getD 1 d0).ii)]
noncomputable def E_laws_szInDefS (a : List DC) : Out :=
 if (decide ((IntKind.i64.wrap ((a.getD 1 d0).ii - (((a.getD 0 d0).ll).length : Int))) < (0 : Int))) = true then
 .ret [.i (-1 : Int)]
 else
 Out.andThenB (Loop E_laws_szInDefSL1 [.sl ((a.getD 0 d0).ll), .i (IntKind.i64.wrap ((a.getD 1 d0).ii - (((a.getD 0 d0).ll).length : Int))), .i (0 : Int)]) 0 fun v4 =>
 .ret [.i ((v4.getD 0 d0).ii)]
theorem eq_laws_szInDefS a : r_laws_szInDefS a = E_laws_szInDefS a := (Run_eq cfg 111 _ a).trans (by kernel_rfl)
noncomputable def E_laws_szEnumDefSL1 : List DC → Out := fun v1 =>
 if (decide ((v1.getD 2 d0).ii < (((v1.getD 0 d0).ll).length : Int))) = true then
 Out.andThenB (if 198 = 198 ∧ 0 ≤ (v1.getD 2 d0).ii ∧ (v1.getD 2 d0).ii < (((v1.getD 0 d0).ll).length : Int) then
 (r_laws_szEnumDef [.s (((((v1.getD 0 d0).ll).getD ((v1.getD 2 d0).ii).toNat []).getD 0 d0).ss), .s (((((v1.getD 0 d0).ll).getD ((v1.getD 2 d0).ii).toNat []).getD 1 d0).ss), .sl (((((v1.getD 0 d0).ll).getD ((v1.getD 2 d0).ii).toNat []).getD 2 d0).ll), .i ((v1.getD 1 d0).ii)]).bindR fun r2 =>
 if (decide ((r2.getD 0 d0).ii < (0 : Int))) = true then
 .ret [.i (-1 : Int)]
 else
 .norm [.sl ((v1.getD 0 d0).ll), .i ((r2.getD 0 d0).ii), .i ((v1.getD 2 d0).ii)]
 else
 .fail) 1 fun v3 =>
 .norm [.sl ((v3.getD 0 d0).ll), .i ((v3.getD 1 d0).ii), .i (IntKind.i64.wrap ((v3.getD 2 d0).ii + (1 : Int)))]
 else
 .ex 0 [.i ((v1.getD 1 d0).ii)]
noncomputable def E_laws_szEnumDefS (a : List DC) : Out :=
 if (decide ((IntKind.i64.wrap ((a.getD 1 d0).ii - (((a.getD 0 d0).ll).length : Int))) < (0 : Int))) = true then
 .ret [.i (-1 : Int)]
 else
 Out.andThenB (Loop E_laws_szEnumDefSL1 [.sl ((a.getD 0 d0).ll), .i (IntKind.i64.wrap ((a.getD 1 d0).ii - (((a.getD 0 d0).ll).length : Int))), .i (0 : Int)]) 0 fun v4 =>
 .ret [.i ((v4.getD 0 d0).ii)]
theorem eq_laws_szEnumDefS a : r_laws_szEnumDefS a = E_laws_szEnumDefS a := (Run_eq cfg 112 _ a).trans (by kernel_rfl)
noncomputable def E_laws_szRootSL1 : List DC → Out := fun v1 =>
 if (decide ((v1.getD 2 d0).ii < (((v1.getD 0 d0).ll).length : Int))) = true then
 Out.andThenB (if 126 = 126 ∧ 0 ≤ (v1.getD 2 d0).ii ∧ (v1.getD 2 d0).ii < (((v1.getD 0 d0).ll).length : Int) then
 (r_laws_szRoot [.i (((((v1.getD 0 d0).ll).getD ((v1.getD 2 d0).ii).toNat []).getD 0 d0).ii), .s (((((v1.getD 0 d0).ll).getD ((v1.getD 2 d0).ii).toNat []).getD 1 d0).ss), .i ((v1.getD 1 d0).ii)]).bindR fun r2 =>
 if (decide ((r2.getD 0 d0).ii < (0 : Int))) = true then
 .ret [.i (-1 : Int)]
 else
 .norm [.sl ((v1.getD 0 d0).ll), .i ((r2.getD 0 d0).ii), .i ((v1.getD 2 d0).ii)]
 else
 .fail) 1 fun v3 =>
 .norm [.sl ((v3.getD 0 d0).ll), .i ((v3.getD 1 d0).ii), .i (IntKind.i64.wrap ((v3.getD 2 d0).ii + (1 : Int)))]
 else
 .ex 0 [.i ((v1.getD 1 d0).ii)]
noncomputable def E_laws_szRootS (a : List DC) : Out :=
 if (decide ((IntKind.i64.wrap ((a.getD 1 d0).ii - (((a.getD 0 d0).ll).length : Int))) < (0 : Int))) = true then
 .ret [.i (-1 : Int)]
 else
 Out.andThenB (Loop E_laws_szRootSL1 [.sl ((a.getD 0 d0).ll), .i (IntKind.i64.wrap ((a.getD 1 d0).ii - (((a.getD 0 d0).ll).length : Int))), .i (0 : Int)]) 0 fun v4 =>
 .ret [.i ((v4.getD 0 d0).ii)]
theorem eq_laws_szRootS a : r_laws_szRootS a = E_laws_szRootS a := (Run_eq cfg 37 _ a).trans (by kernel_rfl)
noncomputable def E_laws_toVarDefSL1 : List DC → Out := fun v1 =>
 if (decide ((v1.getD 2 d0).ii < (((v1.getD 0 d0).ll).length : Int))) = true then
 Out.andThenB (if 240 = 240 ∧ 0 ≤ (v1.getD 2 d0).ii ∧ (v1.getD 2 d0).ii < (((v1.getD 0 d0).ll).length : Int) then
 (r_laws_toVarDef [.s (((((v1.getD 0 d0).ll).getD ((v1.getD 2 d0).ii).toNat []).getD 0 d0).ss), .s (((((v1.getD 0 d0).ll).getD ((v1.getD 2 d0).ii).toNat []).getD 1 d0).ss), .s (((((v1.getD 0 d0).ll).getD ((v1.getD 2 d0).ii).toNat []).getD 2 d0).ss), .b (((((v1.getD 0 d0).ll).getD ((v1.getD 2 d0).ii).toNat []).getD 3 d0).bb), .i (((((v1.getD 0 d0).ll).getD ((v1.getD 2 d0).ii).toNat []).getD 4 d0).ii), .s (((((v1.getD 0 d0).ll).getD ((v1.getD 2 d0).ii).toNat []).getD 5 d0).ss), .sl (((((v1.getD 0 d0).ll).getD ((v1.getD 2 d0).ii).toNat []).getD 6 d0).ll), .sl (((((v1.getD 0 d0).ll).getD ((v1.getD 2 d0).ii).toNat []).getD 7 d0).ll), .sl (((((v1.getD 0 d0).ll).getD ((v1.getD 2 d0).ii).toNat []).getD 8 d0).ll)]).bindR fun r2 =>
 if 214 = 214 ∧ 0 ≤ (v1.getD 2 d0).ii ∧ (v1.getD 2 d0).ii < (((v1.getD 1 d0).ll).length : Int) then
 .norm [.sl ((v1.getD 0 d0).ll), .sl (((v1.getD 1 d0).ll).set (((v1.getD 2 d0).ii).toNat) (setRunD (((v1.getD 1 d0).ll).getD (((v1.getD 2 d0).ii).toNat) []) 0 [DC.s ((r2.getD 0 d0).ss), DC.s ((r2.getD 1 d0).ss), DC.s ((r2.getD 2 d0).ss), DC.b ((r2.getD 3 d0).bb), DC.i ((r2.getD 4 d0).ii), DC.s ((r2.getD 5 d0).ss), DC.sl ((r2.getD 6 d0).ll), DC.sl ((r2.getD 7 d0).ll), DC.sl ((r2.getD 8 d0).ll)])), .i ((v1.getD 2 d0).ii)]
 else
 .fail
 else
 .fail) 1 fun v3 =>
 .norm [.sl ((v3.getD 0 d0).ll), .sl ((v3.getD 1 d0).ll), .i (IntKind.i64.wrap ((v3.getD 2 d0).ii + (1 : Int)))]
 else
 .ex 0 [.sl ((v1.getD 1 d0).ll)]
noncomputable def E_laws_toVarDefS (a : List DC) : Out :=
 if 0 ≤ (((a.getD 0 d0).ll).length : Int) ∧ (((a.getD 0 d0).ll).length : Int) < (LIM : Int) ∧ (((a.getD 0 d0).ll).length : Int) = (((a.getD 0 d0).ll).length : Int) ∧ 152 ≤ 1024 ∧ 0 < 9 ∧ dp 214 = false then
 Out.andThenB (Loop E_laws_toVarDefSL1 [.sl ((a.getD 0 d0).ll), .sl (List.replicate (((a.getD 0 d0).ll).length : Int).toNat [DC.s [], DC.s [], DC.s [], DC.b false, DC.i 0, DC.s [], DC.sl [], DC.sl [], DC.sl []]), .i (0 : Int)]) 0 fun v4 =>
 .ret [.sl ((v4.getD 0 d0).ll)]
 else
 .fail
theorem eq_laws_toVarDefS a : r_laws_toVarDefS a = E_laws_toVarDefS a := (Run_eq cfg 164 _ a).trans (by kernel_rfl)
noncomputable def E_laws_toDirSL1 : List DC → Out := fun v1 =>
 if (decide ((v1.getD 2 d0).ii < (((v1.getD 0 d0).ll).length : Int))) = true then
 Out.andThenB (if 202 = 202 ∧ 0 ≤ (v1.getD 2 d0).ii ∧ (v1.getD 2 d0).ii < (((v1.getD 0 d0).ll).length : Int) then
 (r_laws_toDir [.s (((((v1.getD 0 d0).ll).getD ((v1.getD 2 d0).ii).toNat []).getD 0 d0).ss), .sl (((((v1.getD 0 d0).ll).getD ((v1.getD 2 d0).ii).toNat []).getD 1 d0).ll)]).bindR fun r2 =>
 if 143 = 143 ∧ 0 ≤ (v1.getD 2 d0).ii ∧ (v1.getD 2 d0).ii < (((v1.getD 1 d0).ll).length : Int) then
 .norm [.sl ((v1.getD 0 d0).ll), .sl (((v1.getD 1 d0).ll).set (((v1.getD 2 d0).ii).toNat) (setRunD (((v1.getD 1 d0).ll).getD (((v1.getD 2 d0).ii).toNat) []) 0 [DC.s ((r2.getD 0 d0).ss), DC.sl ((r2.getD 1 d0).ll)])), .i ((v1.getD 2 d0).ii)]
 else
 .fail
 else
 .fail) 1 fun v3 =>
 .norm [.sl ((v3.getD 0 d0).ll), .sl ((v3.getD 1 d0).ll), .i (IntKind.i64.wrap ((v3.getD 2 d0).ii + (1 : Int)))]
 else
 .ex 0 [.sl ((v1.getD 1 d0).ll)]
noncomputable def E_laws_toDirS (a : List DC) : Out :=
 if 0 ≤ (((a.getD 0 d0).ll).length : Int) ∧ (((a.getD 0 d0).ll).length : Int) < (LIM : Int) ∧ (((a.getD 0 d0).ll).length : Int) = (((a.getD 0 d0).ll).length : Int) ∧ 40 ≤ 1024 ∧ 0 < 2 ∧ dp 143 = false then
 Out.andThenB (Loop E_laws_toDirSL1 [.sl ((a.getD 0 d0).ll), .sl (List.replicate (((a.getD 0 d0).ll).length : Int).toNat [DC.s [], DC.sl []]), .i (0 : Int)]) 0 fun v4 =>
 .ret [.sl ((v4.getD 0 d0).ll)]
 else
 .fail
theorem eq_laws_toDirS a : r_laws_toDirS a = E_laws_toDirS a := (Run_eq cfg 118 _ a).trans (by kernel_rfl)
noncomputable def E_laws_toSelSL1 : List DC → Out := fun v1 =>
 if (decide ((v1.getD 2 d0).ii < (((v1.getD 0 d0).ll).length : Int))) = true then
 Out.andThenB (if 243 = 243 ∧ 0 ≤ (v1.getD 2 d0).ii ∧ (v1.getD 2 d0).ii < (((v1.getD 0 d0).ll).length : Int) then
 (r_laws_toSel [.i (((((v1.getD 0 d0).ll).getD ((v1.getD 2 d0).ii).toNat []).getD 0 d0).ii), .s (((((v1.getD 0 d0).ll).getD ((v1.getD 2 d0).ii).toNat []).getD 1 d0).ss), .s (((((v1.getD 0 d0).ll).getD ((v1.getD 2 d0).ii).toNat []).getD 2 d0).ss), .s (((((v1.getD 0 d0).ll).getD ((v1.getD 2 d0).ii).toNat []).getD 3 d0).ss), .sl (((((v1.getD 0 d0).ll).getD ((v1.getD 2 d0).ii).toNat []).getD 4 d0).ll), .sl (((((v1.getD 0 d0).ll).getD ((v1.getD 2 d0).ii).toNat []).getD 5 d0).ll), .sl (((((v1.getD 0 d0).ll).getD ((v1.getD 2 d0).ii).toNat []).getD 6 d0).ll)]).bindR fun r2 =>
 if 216 = 216 ∧ 0 ≤ (v1.getD 2 d0).ii ∧ (v1.getD 2 d0).ii < (((v1.getD 1 d0).ll).length : Int) then
 .norm [.sl ((v1.getD 0 d0).ll), .sl (((v1.getD 1 d0).ll).set (((v1.getD 2 d0).ii).toNat) (setRunD (((v1.getD 1 d0).ll).getD (((v1.getD 2 d0).ii).toNat) []) 0 [DC.i ((r2.getD 0 d0).ii), DC.s ((r2.getD 1 d0).ss), DC.s ((r2.getD 2 d0).ss), DC.s ((r2.getD 3 d0).ss), DC.sl ((r2.getD 4 d0).ll), DC.sl ((r2.getD 5 d0).ll), DC.sl ((r2.getD 6 d0).ll)])), .i ((v1.getD 2 d0).ii)]
 else
 .fail
 else
 .fail) 1 fun v3 =>
 .norm [.sl ((v3.getD 0 d0).ll), .sl ((v3.getD 1 d0).ll), .i (IntKind.i64.wrap ((v3.getD 2 d0).ii + (1 : Int)))]
 else
 .ex 0 [.sl ((v1.getD 1 d0).ll)]
noncomputable def E_laws_toSelS (a : List DC) : Out :=
 if 0 ≤ (((a.getD 0 d0).ll).length : Int) ∧ (((a.getD 0 d0).ll).length : Int) < (LIM : Int) ∧ (((a.getD 0 d0).ll).length : Int) = (((a.getD 0 d0).ll).length : Int) ∧ 128 ≤ 1024 ∧ 0 < 7 ∧ dp 216 = false then
 Out.andThenB (Loop E_laws_toSelSL1 [.sl ((a.getD 0 d0).ll), .sl (List.replicate (((a.getD 0 d0).ll).length : Int).toNat [DC.i 0, DC.s [], DC.s [], DC.s [], DC.sl [], DC.sl [], DC.sl []]), .i (0 : Int)]) 0 fun v4 =>
 .ret [.sl ((v4.getD 0 d0).ll)]
 else
 .fail
theorem eq_laws_toSelS a : r_laws_toSelS a = E_laws_toSelS a := (Run_eq cfg 165 _ a).trans (by kernel_rfl)
noncomputable def E_laws_toStringSL1 : List DC → Out := fun v1 =>
 if (decide ((v1.getD 2 d0).ii < (((v1.getD 0 d0).ll).length : Int))) = true then
 Out.andThenB (if 9 = 9 ∧ 0 ≤ (v1.getD 2 d0).ii ∧ (v1.getD 2 d0).ii < (((v1.getD 0 d0).ll).length : Int) then
 if 9 = 9 ∧ 0 ≤ (v1.getD 2 d0).ii ∧ (v1.getD 2 d0).ii < (((v1.getD 1 d0).ll).length : Int) then
 .norm [.sl ((v1.getD 0 d0).ll), .sl (((v1.getD 1 d0).ll).set (((v1.getD 2 d0).ii).toNat) (setRunD (((v1.getD 1 d0).ll).getD (((v1.getD 2 d0).ii).toNat) []) 0 [DC.s (((((v1.getD 0 d0).ll).getD ((v1.getD 2 d0).ii).toNat []).getD 0 d0).ss)])), .i ((v1.getD 2 d0).ii)]
 else
 .fail
 else
 .fail) 1 fun v2 =>
 .norm [.sl ((v2.getD 0 d0).ll), .sl ((v2.getD 1 d0).ll), .i (IntKind.i64.wrap ((v2.getD 2 d0).ii + (1 : Int)))]
 else
 .ex 0 [.sl ((v1.getD 1 d0).ll)]
noncomputable def E_laws_toStringS (a : List DC) : Out :=
 if 0 ≤ (((a.getD 0 d0).ll).length : Int) ∧ (((a.getD 0 d0).ll).length : Int) < (LIM : Int) ∧ (((a.getD 0 d0).ll).length : Int) = (((a.getD 0 d0).ll).length : Int) ∧ 16 ≤ 1024 ∧ 0 < 1 ∧ dp 9 = false then
 Out.andThenB (Loop E_laws_toStringSL1 [.sl ((a.getD 0 d0).ll), .sl (List.replicate (((a.getD 0 d0).ll).length : Int).toNat [DC.s []]), .i (0 : Int)]) 0 fun v3 =>
 .ret [.sl ((v3.getD 0 d0).ll)]
 else
 .fail
theorem eq_laws_toStringS a : r_laws_toStringS a = E_laws_toStringS a := (Run_eq cfg 114 _ a).trans (by kernel_rfl)
noncomputable def E_laws_toFieldDefSL1 : List DC → Out := fun v1 =>
 if (decide ((v1.getD 2 d0).ii < (((v1.getD 0 d0).ll).length : Int))) = true then
 Out.andThenB (if 189 = 189 ∧ 0 ≤ (v1.getD 2 d0).ii ∧ (v1.getD 2 d0).ii < (((v1.getD 0 d0).ll).length : Int) then
 (r_laws_toFieldDef [.s (((((v1.getD 0 d0).ll).getD ((v1.getD 2 d0).ii).toNat []).getD 0 d0).ss), .s (((((v1.getD 0 d0).ll).getD ((v1.getD 2 d0).ii).toNat []).getD 1 d0).ss), .sl (((((v1.getD 0 d0).ll).getD ((v1.getD 2 d0).ii).toNat []).getD 2 d0).ll), .s (((((v1.getD 0 d0).ll).getD ((v1.getD 2 d0).ii).toNat []).getD 3 d0).ss), .s (((((v1.getD 0 d0).ll).getD ((v1.getD 2 d0).ii).toNat []).getD 4 d0).ss), .sl (((((v1.getD 0 d0).ll).getD ((v1.getD 2 d0).ii).toNat []).getD 5 d0).ll)]).bindR fun r2 =>
 if 32 = 32 ∧ 0 ≤ (v1.getD 2 d0).ii ∧ (v1.getD 2 d0).ii < (((v1.getD 1 d0).ll).length : Int) then
 .norm [.sl ((v1.getD 0 d0).ll), .sl (((v1.getD 1 d0).ll).set (((v1.getD 2 d0).ii).toNat) (setRunD (((v1.getD 1 d0).ll).getD (((v1.getD 2 d0).ii).toNat) []) 0 [DC.s ((r2.getD 0 d0).ss), DC.s ((r2.getD 1 d0).ss), DC.sl ((r2.getD 2 d0).ll), DC.s ((r2.getD 3 d0).ss), DC.s ((r2.getD 4 d0).ss), DC.sl ((r2.getD 5 d0).ll)])), .i ((v1.getD 2 d0).ii)]
 else
 .fail
 else
 .fail) 1 fun v3 =>
 .norm [.sl ((v3.getD 0 d0).ll), .sl ((v3.getD 1 d0).ll), .i (IntKind.i64.wrap ((v3.getD 2 d0).ii + (1 : Int)))]
 else
 .ex 0 [.sl ((v1.getD 1 d0).ll)]
noncomputable def E_laws_toFieldDefS (a : List DC) : Out :=
 if 0 ≤ (((a.getD 0 d0).ll).length : Int) ∧ (((a.getD 0 d0).ll).length : Int) < (LIM : Int) ∧ (((a.getD 0 d0).ll).length : Int) = (((a.getD 0 d0).ll).length : Int) ∧ 112 ≤ 1024 ∧ 0 < 6 ∧ dp 32 = false then
 Out.andThenB (Loop E_laws_toFieldDefSL1 [.sl ((a.getD 0 d0).ll), .sl (List.replicate (((a.getD 0 d0).ll).length : Int).toNat [DC.s [], DC.s [], DC.sl [], DC.s [], DC.s [], DC.sl []]), .i (0 : Int)]) 0 fun v4 =>
 .ret [.sl ((v4.getD 0 d0).ll)]
 else
 .fail
theorem eq_laws_toFieldDefS a : r_laws_toFieldDefS a = E_laws_toFieldDefS a := (Run_eq cfg 115 _ a).trans (by kernel_rfl)
noncomputable def E_laws_toInDefSL1 : List DC → Out := fun v1 =>
 if (decide ((v1.getD 2 d0).ii < (((v1.getD 0 d0).ll).length : Int))) = true then
 Out.andThenB (if 195 = 195 ∧ 0 ≤ (v1.getD 2 d0).ii ∧ (v1.getD 2 d0).ii < (((v1.getD 0 d0).ll).length : Int) then
 (r_laws_toInDef [.s (((((v1.getD 0 d0).ll).getD ((v1.getD 2 d0).ii).toNat []).getD 0 d0).ss), .s (((((v1.getD 0 d0).ll).getD ((v1.getD 2 d0).ii).toNat []).getD 1 d0).ss), .s (((((v1.getD 0 d0).ll).getD ((v1.getD 2 d0).ii).toNat []).getD 2 d0).ss), .s (((((v1.getD 0 d0).ll).getD ((v1.getD 2 d0).ii).toNat []).getD 3 d0).ss), .b (((((v1.getD 0 d0).ll).getD ((v1.getD 2 d0).ii).toNat []).getD 4 d0).bb), .i (((((v1.getD 0 d0).ll).getD ((v1.getD 2 d0).ii).toNat []).getD 5 d0).ii), .s (((((v1.getD 0 d0).ll).getD ((v1.getD 2 d0).ii).toNat []).getD 6 d0).ss), .sl (((((v1.getD 0 d0).ll).getD ((v1.getD 2 d0).ii).toNat []).getD 7 d0).ll), .sl (((((v1.getD 0 d0).ll).getD ((v1.getD 2 d0).ii).toNat []).getD 8 d0).ll), .sl (((((v1.getD 0 d0).ll).getD ((v1.getD 2 d0).ii).toNat []).getD 9 d0).ll)]).bindR fun r2 =>
 if 139 = 139 ∧ 0 ≤ (v1.getD 2 d0).ii ∧ (v1.getD 2 d0).ii < (((v1.getD 1 d0).ll).length : Int) then
 .norm [.sl ((v1.getD 0 d0).ll), .sl (((v1.getD 1 d0).ll).set (((v1.getD 2 d0).ii).toNat) (setRunD (((v1.getD 1 d0).ll).getD (((v1.getD 2 d0).ii).toNat) []) 0 [DC.s ((r2.getD 0 d0).ss), DC.s ((r2.getD 1 d0).ss), DC.s ((r2.getD 2 d0).ss), DC.s ((r2.getD 3 d0).ss), DC.b ((r2.getD 4 d0).bb), DC.i ((r2.getD 5 d0).ii), DC.s ((r2.getD 6 d0).ss), DC.sl ((r2.getD 7 d0).ll), DC.sl ((r2.getD 8 d0).ll), DC.sl ((r2.getD 9 d0).ll)])), .i ((v1.getD 2 d0).ii)]
 else
 .fail
 else
 .fail) 1 fun v3 =>
 .norm [.sl ((v3.getD 0 d0).ll), .sl ((v3.getD 1 d0).ll), .i (IntKind.i64.wrap ((v3.getD 2 d0).ii + (1 : Int)))]
 else
 .ex 0 [.sl ((v1.getD 1 d0).ll)]
noncomputable def E_laws_toInDefS (a : List DC) : Out :=
 if 0 ≤ (((a.getD 0 d0).ll).length : Int) ∧ (((a.getD 0 d0).ll).length : Int) < (LIM : Int) ∧ (((a.getD 0 d0).ll).length : Int) = (((a.getD 0 d0).ll).length : Int) ∧ 168 ≤ 1024 ∧ 0 < 10 ∧ dp 139 = false then
 Out.andThenB (Loop E_laws_toInDefSL1 [.sl ((a.getD 0 d0).ll), .sl (List.replicate (((a.getD 0 d0).ll).length : Int).toNat [DC.s [], DC.s [], DC.s [], DC.s [], DC.b false, DC.i 0, DC.s [], DC.sl [], DC.sl [], DC.sl []]), .i (0 : Int)]) 0 fun v4 =>
 .ret [.sl ((v4.getD 0 d0).ll)]
 else
 .fail
theorem eq_laws_toInDefS a : r_laws_toInDefS a = E_laws_toInDefS a := (Run_eq cfg 116 _ a).trans (by kernel_rfl)
noncomputable def E_laws_toEnumDefSL1 : List DC → Out := fun v1 =>
 if (decide ((v1.getD 2 d0).ii < (((v1.getD 0 d0).ll).length : Int))) = true then
 Out.andThenB (if 198 = 198 ∧ 0 ≤ (v1.getD 2 d0).ii ∧ (v1.getD 2 d0).ii < (((v1.getD 0 d0).ll).length : Int) then
 (r_laws_toEnumDef [.s (((((v1.getD 0 d0).ll).getD ((v1.getD 2 d0).ii).toNat []).getD 0 d0).ss), .s (((((v1.getD 0 d0).ll).getD ((v1.getD 2 d0).ii).toNat []).getD 1 d0).ss), .sl (((((v1.getD 0 d0).ll).getD ((v1.getD 2 d0).ii).toNat []).getD 2 d0).ll)]).bindR fun r2 =>
 if 154 = 154 ∧ 0 ≤ (v1.getD 2 d0).ii ∧ (v1.getD 2 d0).ii < (((v1.getD 1 d0).ll).length : Int) then
 .norm [.sl ((v1.getD 0 d0).ll), .sl (((v1.getD 1 d0).ll).set (((v1.getD 2 d0).ii).toNat) (setRunD (((v1.getD 1 d0).ll).getD (((v1.getD 2 d0).ii).toNat) []) 0 [DC.s ((r2.getD 0 d0).ss), DC.s ((r2.getD 1 d0).ss), DC.sl ((r2.getD 2 d0).ll)])), .i ((v1.getD 2 d0).ii)]
 else
 .fail
 else
 .fail) 1 fun v3 =>
 .norm [.sl ((v3.getD 0 d0).ll), .sl ((v3.getD 1 d0).ll), .i (IntKind.i64.wrap ((v3.getD 2 d0).ii + (1 : Int)))]
 else
 .ex 0 [.sl ((v1.getD 1 d0).ll)]
noncomputable def E_laws_toEnumDefS (a : List DC) : Out :=
 if 0 ≤ (((a.getD 0 d0).ll).length : Int) ∧ (((a.getD 0 d0).ll).length : Int) < (LIM : Int) ∧ (((a.getD 0 d0).ll).length : Int) = (((a.getD 0 d0).ll).length : Int) ∧ 56 ≤ 1024 ∧ 0 < 3 ∧ dp 154 = false then
 Out.andThenB (Loop E_laws_toEnumDefSL1 [.sl ((a.getD 0 d0).ll), .sl (List.replicate (((a.getD 0 d0).ll).length : Int).toNat [DC.s [], DC.s [], DC.sl []]), .i (0 : Int)]) 0 fun v4 =>
 .ret [.sl ((v4.getD 0 d0).ll)]
 else
 .fail
theorem eq_laws_toEnumDefS a : r_laws_toEnumDefS a = E_laws_toEnumDefS a := (Run_eq cfg 117 _ a).trans (by kernel_rfl)
noncomputable def E_laws_toRootSL1 : List DC → Out := fun v1 =>
 if (decide ((v1.getD 2 d0).ii < (((v1.getD 0 d0).ll).length : Int))) = true then
 Out.andThenB (if 126 = 126 ∧ 0 ≤ (v1.getD 2 d0).ii ∧ (v1.getD 2 d0).ii < (((v1.getD 0 d0).ll).length : Int) then
 (r_laws_toRoot [.i (((((v1.getD 0 d0).ll).getD ((v1.getD 2 d0).ii).toNat []).getD 0 d0).ii), .s (((((v1.getD 0 d0).ll).getD ((v1.getD 2 d0).ii).toNat []).getD 1 d0).ss)]).bindR fun r2 =>
 if 131 = 131 ∧ 0 ≤ (v1.getD 2 d0).ii ∧ (v1.getD 2 d0).ii < (((v1.getD 1 d0).ll).length : Int) then
 .norm [.sl ((v1.getD 0 d0).ll), .sl (((v1.getD 1 d0).ll).set (((v1.getD 2 d0).ii).toNat) (setRunD (((v1.getD 1 d0).ll).getD (((v1.getD 2 d0).ii).toNat) []) 0 [DC.i ((r2.getD 0 d0).ii), DC.s ((r2.getD 1 d0).ss)])), .i ((v1.getD 2 d0).ii)]
 else
 .fail
 else
 .fail) 1 fun v3 =>
 .norm [.sl ((v3.getD 0 d0).ll), .sl ((v3.getD 1 d0).ll), .i (IntKind.i64.wrap ((v3.getD 2 d0).ii + (1 : Int)))]
 else
 .ex 0 [.sl ((v1.getD 1 d0).ll)]
noncomputable def E_laws_toRootS (a : List DC) : Out :=
 if 0 ≤ (((a.getD 0 d0).ll).length : Int) ∧ (((a.getD 0 d0).ll).length : Int) < (LIM : Int) ∧ (((a.getD 0 d0).ll).length : Int) = (((a.getD 0 d0).ll).length : Int) ∧ 24 ≤ 1024 ∧ 0 < 2 ∧ dp 131 = false then
 Out.andThenB (Loop E_laws_toRootSL1 [.sl ((a.getD 0 d0).ll), .sl (List.replicate (((a.getD 0 d0).ll).length : Int).toNat [DC.i 0, DC.s []]), .i (0 : Int)]) 0 fun v4 =>
 .ret [.sl ((v4.getD 0 d0).ll)]
 else
 .fail
theorem eq_laws_toRootS a : r_laws_toRootS a = E_laws_toRootS a := (Run_eq cfg 40 _ a).trans (by kernel_rfl)
noncomputable def E_laws_eqType (a : List DC) : Out :=
 if (!((a.getD 0 d0).ss == (a.getD 2 d0).ss)) = true then
 .ret [.b false]
 else
 if (!((a.getD 1 d0).ss == (a.getD 3 d0).ss)) = true then
 .ret [.b false]
 else
 .ret [.b true]
theorem eq_laws_eqType a : r_laws_eqType a = E_laws_eqType a := (Run_eq cfg 44 _ a).trans (by kernel_rfl)
noncomputable def E_laws_eqValue (a : List DC) : Out :=
 if ((a.getD 0 d0).ii != (a.getD 4 d0).ii) = true then
 .ret [.b false]
 else
 if (!((a.getD 1 d0).ss == (a.getD 5 d0).ss)) = true then
 .ret [.b false]
 else
 (r_laws_eqValueS [.sl ((a.getD 2 d0).ll), .sl ((a.getD 6 d0).ll)]).bindR fun r1 =>
 if (!((r1.getD 0 d0).bb)) = true then
 .ret [.b false]
 else
 (r_laws_eqStringS [.sl ((a.getD 3 d0).ll), .sl ((a.getD 7 d0).ll)]).bindR fun r2 =>
 if (!((r2.getD 0 d0).bb)) = true then
 .ret [.b false]
 else
 .ret [.b true]
theorem eq_laws_eqValue a : r_laws_eqValue a = E_laws_eqValue a := (Run_eq cfg 134 _ a).trans (by kernel_rfl)
noncomputable def E_laws_eqArgSL1 : List DC → Out := fun v1 =>
 if (decide ((v1.getD 2 d0).ii < (((v1.getD 0 d0).ll).length : Int))) = true then
 Out.andThenB (if 184 = 184 ∧ 0 ≤ (v1.getD 2 d0).ii ∧ (v1.getD 2 d0).ii < (((v1.getD 0 d0).ll).length : Int) then
 if 184 = 184 ∧ 0 ≤ (v1.getD 2 d0).ii ∧ (v1.getD 2 d0).ii < (((v1.getD 1 d0).ll).length : Int) then
 (r_laws_eqArg [.s (((((v1.getD 0 d0).ll).getD ((v1.getD 2 d0).ii).toNat []).getD 0 d0).ss), .i (((((v1.getD 0 d0).ll).getD ((v1.getD 2 d0).ii).toNat []).getD 1 d0).ii), .s (((((v1.getD 0 d0).ll).getD ((v1.getD 2 d0).ii).toNat []).getD 2 d0).ss), .sl (((((v1.getD 0 d0).ll).getD ((v1.getD 2 d0).ii).toNat []).getD 3 d0).ll), .sl (((((v1.getD 0 d0).ll).getD ((v1.getD 2 d0).ii).toNat []).getD 4 d0).ll), .s (((((v1.getD 1 d0).ll).getD ((v1.getD 2 d0).ii).toNat []).getD 0 d0).ss), .i (((((v1.getD 1 d0).ll).getD ((v1.getD 2 d0).ii).toNat []).getD 1 d0).ii), .s (((((v1.getD 1 d0).ll).getD ((v1.getD 2 d0).ii).toNat []).getD 2 d0).ss), .sl (((((v1.getD 1 d0).ll).getD ((v1.getD 2 d0).ii).toNat []).getD 3 d0).ll), .sl (((((v1.getD 1 d0).ll).getD ((v1.getD 2 d0).ii).toNat []).getD 4 d0).ll)]).bindR fun r2 =>
 if (!((r2.getD 0 d0).bb)) = true then
 .ret [.b false]
 else
 .norm [.sl ((v1.getD 0 d0).ll), .sl ((v1.getD 1 d0).ll), .i ((v1.getD 2 d0).ii)]
 else
 .fail
 else
 .fail) 1 fun v3 =>
 .norm [.sl ((v3.getD 0 d0).ll), .sl ((v3.getD 1 d0).ll), .i (IntKind.i64.wrap ((v3.getD 2 d0).ii + (1 : Int)))]
 else
 .ex 0 []
noncomputable def E_laws_eqArgS (a : List DC) : Out :=
 if ((((a.getD 0 d0).ll).length : Int) != (((a.getD 1 d0).ll).length : Int)) = true then
 .ret [.b false]
 else
 Out.andThenB (Loop E_laws_eqArgSL1 [.sl ((a.getD 0 d0).ll), .sl ((a.getD 1 d0).ll), .i (0 : Int)]) 0 fun v4 =>
 .ret [.b true]
theorem eq_laws_eqArgS a : r_laws_eqArgS a = E_laws_eqArgS a := (Run_eq cfg 135 _ a).trans (by kernel_rfl)
noncomputable def E_laws_eqVarDefSL1 : List DC → Out := fun v1 =>
 if (decide ((v1.getD 2 d0).ii < (((v1.getD 0 d0).ll).length : Int))) = true then
 Out.andThenB (if 214 = 214 ∧ 0 ≤ (v1.getD 2 d0).ii ∧ (v1.getD 2 d0).ii < (((v1.getD 0 d0).ll).length : Int) then
 if 214 = 214 ∧ 0 ≤ (v1.getD 2 d0).ii ∧ (v1.getD 2 d0).ii < (((v1.getD 1 d0).ll).length : Int) then
 (r_laws_eqVarDef [.s (((((v1.getD 0 d0).ll).getD ((v1.getD 2 d0).ii).toNat []).getD 0 d0).ss), .s (((((v1.getD 0 d0).ll).getD ((v1.getD 2 d0).ii).toNat []).getD 1 d0).ss), .s (((((v1.getD 0 d0).ll).getD ((v1.getD 2 d0).ii).toNat []).getD 2 d0).ss), .b (((((v1.getD 0 d0).ll).getD ((v1.getD 2 d0).ii).toNat []).getD 3 d0).bb), .i (((((v1.getD 0 d0).ll).getD ((v1.getD 2 d0).ii).toNat []).getD 4 d0).ii), .s (((((v1.getD 0 d0).ll).getD ((v1.getD 2 d0).ii).toNat []).getD 5 d0).ss), .sl (((((v1.getD 0 d0).ll).getD ((v1.getD 2 d0).ii).toNat []).getD 6 d0).ll), .sl (((((v1.getD 0 d0).ll).getD ((v1.getD 2 d0).ii).toNat []).getD 7 d0).ll), .sl (((((v1.getD 0 d0).ll).getD ((v1.getD 2 d0).ii).toNat []).getD 8 d0).ll), .s (((((v1.getD 1 d0).ll).getD ((v1.getD 2 d0).ii).toNat []).getD 0 d0).ss), .s (((((v1.getD 1 d0).ll).getD ((v1.getD 2 d0).ii).toNat []).getD 1 d0).ss), .s (((((v1.getD 1 d0).ll).getD ((v1.getD 2 d0).ii).toNat []).getD 2 d0).ss), .b (((((v1.getD 1 d0).ll).getD ((v1.getD 2 d0).ii).toNat []).getD 3 d0).bb), .i (((((v1.getD 1 d0).ll).getD ((v1.getD 2 d0).ii).toNat []).getD 4 d0).ii), .s (((((v1.getD 1 d0).ll).getD ((v1.getD 2 d0).ii).toNat []).getD 5 d0).ss), .sl (((((v1.getD 1 d0).ll).getD ((v1.getD 2 d0).ii).toNat []).getD 6 d0).ll), .sl (((((v1.getD 1 d0).ll).getD ((v1.getD 2 d0).ii).toNat []).getD 7 d0).ll), .sl (((((v1.getD 1 d0).ll).getD ((v1.getD 2 d0).ii).toNat []).getD 8 d0).ll)]).bindR fun r2 =>
 if (!((r2.getD 0 d0).bb)) = true then
 .ret [.b false]
 else
 .norm [.sl ((v1.getD 0 d0).ll), .sl ((v1.getD 1 d0).ll), .i ((v1.getD 2 d0).ii)]
 else
 .fail
 else
 .fail) 1 fun v3 =>
 .norm [.sl ((v3.getD 0 d0).ll), .sl ((v3.getD 1 d0).ll), .i (IntKind.i64.wrap ((v3.getD 2 d0).ii + (1 : Int)))]
 else
 .ex 0 []
noncomputable def E_laws_eqVarDefS (a : List DC) : Out :=
 if ((((a.getD 0 d0).ll).length : Int) != (((a.getD 1 d0).ll).length : Int)) = true then
 .ret [.b false]
 else
 Out.andThenB (Loop E_laws_eqVarDefSL1 [.sl ((a.getD 0 d0).ll), .sl ((a.getD 1 d0).ll), .i (0 : Int)]) 0 fun v4 =>
 .ret [.b true]
theorem eq_laws_eqVarDefS a : r_laws_eqVarDefS a = E_laws_eqVarDefS a := (Run_eq cfg 166 _ a).trans (by kernel_rfl)
noncomputable def E_laws_eqSelSL1 : List DC → Out := fun v1 =>
 if (decide ((v1.getD 2 d0).ii < (((v1.getD 0 d0).ll).length : Int))) = true then
 Out.andThenB (if 216 = 216 ∧ 0 ≤ (v1.getD 2 d0).ii ∧ (v1.getD 2 d0).ii < (((v1.getD 0 d0).ll).length : Int) then
 if 216 = 216 ∧ 0 ≤ (v1.getD 2 d0).ii ∧ (v1.getD 2 d0).ii < (((v1.getD 1 d0).ll).length : Int) then
 (r_laws_eqSel [.i (((((v1.getD 0 d0).ll).getD ((v1.getD 2 d0).ii).toNat []).getD 0 d0).ii), .s (((((v1.getD 0 d0).ll).getD ((v1.getD 2 d0).ii).toNat []).getD 1 d0).ss), .s (((((v1.getD 0 d0).ll).getD ((v1.getD 2 d0).ii).toNat []).getD 2 d0).ss), .s (((((v1.getD 0 d0).ll).getD ((v1.getD 2 d0).ii).toNat []).getD 3 d0).ss), .sl (((((v1.getD 0 d0).ll).getD ((v1.getD 2 d0).ii).toNat []).getD 4 d0).ll), .sl (((((v1.getD 0 d0).ll).getD ((v1.getD 2 d0).ii).toNat []).getD 5 d0).ll), .sl (((((v1.getD 0 d0).ll).getD ((v1.getD 2 d0).ii).toNat []).getD 6 d0).ll), .i (((((v1.getD 1 d0).ll).getD ((v1.getD 2 d0).ii).toNat []).getD 0 d0).ii), .s (((((v1.getD 1 d0).ll).getD ((v1.getD 2 d0).ii).toNat []).getD 1 d0).ss), .s (((((v1.getD 1 d0).ll).getD ((v1.getD 2 d0).ii).toNat []).getD 2 d0).ss), .s (((((v1.getD 1 d0).ll).getD ((v1.getD 2 d0).ii).toNat []).getD 3 d0).ss), .sl (((((v1.getD 1 d0).ll).getD ((v1.getD 2 d0).ii).toNat []).getD 4 d0).ll), .sl (((((v1.getD 1 d0).ll).getD ((v1.getD 2 d0).ii).toNat []).getD 5 d0).ll), .sl (((((v1.getD 1 d0).ll).getD ((v1.getD 2 d0).ii).toNat []).getD 6 d0).ll)]).bindR fun r2 =>
 if (!((r2.getD 0 d0).bb)) = true then
 .ret [.b false]
 else
 .norm [.sl ((v1.getD 0 d0).ll), .sl ((v1.getD 1 d0).ll), .i ((v1.getD 2 d0).ii)]
 else
 .fail
 else
 .fail) 1 fun v3 =>
 .norm [.sl ((v3.getD 0 d0).ll), .sl ((v3.getD 1 d0).ll), .i (IntKind.i64.wrap ((v3.getD 2 d0).ii + (1 : Int)))]
 else
 .ex 0 []
noncomputable def E_laws_eqSelS (a : List DC) : Out :=
 if ((((a.getD 0 d0).ll).length : Int) != (((a.getD 1 d0).ll).length : Int)) = true then
 .ret [.b false]
 else
 Out.andThenB (Loop E_laws_eqSelSL1 [.sl ((a.getD 0 d0).ll), .sl ((a.getD 1 d0).ll), .i (0 : Int)]) 0 fun v4 =>
 .ret [.b true]
theorem eq_laws_eqSelS a : r_laws_eqSelS a = E_laws_eqSelS a := (Run_eq cfg 167 _ a).trans (by kernel_rfl)
noncomputable def E_laws_szVarDef (a : List DC) : Out :=
 if (decide ((IntKind.i64.wrap ((a.getD 9 d0).ii - (((a.getD 0 d0).ss).length : Int))) < (0 : Int))) = true then
 .ret [.i (-1 : Int)]
 else
 (r_laws_szType [.s ((a.getD 1 d0).ss), .s ((a.getD 2 d0).ss), .i (IntKind.i64.wrap ((a.getD 9 d0).ii - (((a.getD 0 d0).ss).length : Int)))]).bindR fun r1 =>
 if (decide ((r1.getD 0 d0).ii < (0 : Int))) = true then
 .ret [.i (-1 : Int)]
 else
 (r_laws_szValue [.i ((a.getD 4 d0).ii), .s ((a.getD 5 d0).ss), .sl ((a.getD 6 d0).ll), .sl ((a.getD 7 d0).ll), .i ((r1.getD 0 d0).ii)]).bindR fun r2 =>
 if (decide ((r2.getD 0 d0).ii < (0 : Int))) = true then
 .ret [.i (-1 : Int)]
 else
 (r_laws_szDirS [.sl ((a.getD 8 d0).ll), .i ((r2.getD 0 d0).ii)]).bindR fun r3 =>
 if (decide ((r3.getD 0 d0).ii < (0 : Int))) = true then
 .ret [.i (-1 : Int)]
 else
 .ret [.i ((r3.getD 0 d0).ii)]
theorem eq_laws_szVarDef a : r_laws_szVarDef a = E_laws_szVarDef a := (Run_eq cfg 172 _ a).trans (by kernel_rfl)
noncomputable def E_laws_szDir (a : List DC) : Out :=
 if (decide ((IntKind.i64.wrap ((a.getD 2 d0).ii - (((a.getD 0 d0).ss).length : Int))) < (0 : Int))) = true then
 .ret [.i (-1 : Int)]
 else
 (r_laws_szArgS [.sl ((a.getD 1 d0).ll), .i (IntKind.i64.wrap ((a.getD 2 d0).ii - (((a.getD 0 d0).ss).length : Int)))]).bindR fun r1 =>
 if (decide ((r1.getD 0 d0).ii < (0 : Int))) = true then
 .ret [.i (-1 : Int)]
 else
 .ret [.i ((r1.getD 0 d0).ii)]
theorem eq_laws_szDir a : r_laws_szDir a = E_laws_szDir a := (Run_eq cfg 141 _ a).trans (by kernel_rfl)
noncomputable def E_laws_szSel (a : List DC) : Out :=
 if (decide ((IntKind.i64.wrap ((a.getD 7 d0).ii - (((a.getD 1 d0).ss).length : Int))) < (0 : Int))) = true then
 .ret [.i (-1 : Int)]
 else
 if (decide ((IntKind.i64.wrap ((IntKind.i64.wrap ((a.getD 7 d0).ii - (((a.getD 1 d0).ss).length : Int))) - (((a.getD 2 d0).ss).length : Int))) < (0 : Int))) = true then
 .ret [.i (-1 : Int)]
 else
 if (decide ((IntKind.i64.wrap ((IntKind.i64.wrap ((IntKind.i64.wrap ((a.getD 7 d0).ii - (((a.getD 1 d0).ss).length : Int))) - (((a.getD 2 d0).ss).length : Int))) - (((a.getD 3 d0).ss).length : Int))) < (0 : Int))) = true then
 .ret [.i (-1 : Int)]
 else
 (r_laws_szArgS [.sl ((a.getD 4 d0).ll), .i (IntKind.i64.wrap ((IntKind.i64.wrap ((IntKind.i64.wrap ((a.getD 7 d0).ii - (((a.getD 1 d0).ss).length : Int))) - (((a.getD 2 d0).ss).length : Int))) - (((a.getD 3 d0).ss).length : Int)))]).bindR fun r1 =>
 if (decide ((r1.getD 0 d0).ii < (0 : Int))) = true then
 .ret [.i (-1 : Int)]
 else
 (r_laws_szDirS [.sl ((a.getD 5 d0).ll), .i ((r1.getD 0 d0).ii)]).bindR fun r2 =>
 if (decide ((r2.getD 0 d0).ii < (0 : Int))) = true then
 .ret [.i (-1 : Int)]
 else
 (r_laws_szSelS [.sl ((a.getD 6 d0).ll), .i ((r2.getD 0 d0).ii)]).bindR fun r3 =>
 if (decide ((r3.getD 0 d0).ii < (0 : Int))) = true then
 .ret [.i (-1 : Int)]
 else
 .ret [.i ((r3.getD 0 d0).ii)]
theorem eq_laws_szSel a : r_laws_szSel a = E_laws_szSel a := (Run_eq cfg 173 _ a).trans (by kernel_rfl)
noncomputable def E_laws_szFieldDef (a : List DC) : Out :=
 if (decide ((IntKind.i64.wrap ((a.getD 6 d0).ii - (((a.getD 0 d0).ss).length : Int))) < (0 : Int))) = true then
 .ret [.i (-1 : Int)]
 else
 if (decide ((IntKind.i64.wrap ((IntKind.i64.wrap ((a.getD 6 d0).ii - (((a.getD 0 d0).ss).length : Int))) - (((a.getD 1 d0).ss).length : Int))) < (0 : Int))) = true then
 .ret [.i (-1 : Int)]
 else
 (r_laws_szInDefS [.sl ((a.getD 2 d0).ll), .i (IntKind.i64.wrap ((IntKind.i64.wrap ((a.getD 6 d0).ii - (((a.getD 0 d0).ss).length : Int))) - (((a.getD 1 d0).ss).length : Int)))]).bindR fun r1 =>
 if (decide ((r1.getD 0 d0).ii < (0 : Int))) = true then
 .ret [.i (-1 : Int)]
 else
 (r_laws_szType [.s ((a.getD 3 d0).ss), .s ((a.getD 4 d0).ss), .i ((r1.getD 0 d0).ii)]).bindR fun r2 =>
 if (decide ((r2.getD 0 d0).ii < (0 : Int))) = true then
 .ret [.i (-1 : Int)]
 else
 (r_laws_szDirS [.sl ((a.getD 5 d0).ll), .i ((r2.getD 0 d0).ii)]).bindR fun r3 =>
 if (decide ((r3.getD 0 d0).ii < (0 : Int))) = true then
 .ret [.i (-1 : Int)]
 else
 .ret [.i ((r3.getD 0 d0).ii)]
theorem eq_laws_szFieldDef a : r_laws_szFieldDef a = E_laws_szFieldDef a := (Run_eq cfg 138 _ a).trans (by kernel_rfl)
noncomputable def E_laws_szInDef (a : List DC) : Out :=
 if (decide ((IntKind.i64.wrap ((a.getD 10 d0).ii - (((a.getD 0 d0).ss).length : Int))) < (0 : Int))) = true then
 .ret [.i (-1 : Int)]
 else
 if (decide ((IntKind.i64.wrap ((IntKind.i64.wrap ((a.getD 10 d0).ii - (((a.getD 0 d0).ss).length : Int))) - (((a.getD 1 d0).ss).length : Int))) < (0 : Int))) = true then
 .ret [.i (-1 : Int)]
 else
 (r_laws_szType [.s ((a.getD 2 d0).ss), .s ((a.getD 3 d0).ss), .i (IntKind.i64.wrap ((IntKind.i64.wrap ((a.getD 10 d0).ii - (((a.getD 0 d0).ss).length : Int))) - (((a.getD 1 d0).ss).length : Int)))]).bindR fun r1 =>
 if (decide ((r1.getD 0 d0).ii < (0 : Int))) = true then
 .ret [.i (-1 : Int)]
 else
 (r_laws_szValue [.i ((a.getD 5 d0).ii), .s ((a.getD 6 d0).ss), .sl ((a.getD 7 d0).ll), .sl ((a.getD 8 d0).ll), .i ((r1.getD 0 d0).ii)]).bindR fun r2 =>
 if (decide ((r2.getD 0 d0).ii < (0 : Int))) = true then
 .ret [.i (-1 : Int)]
 else
 (r_laws_szDirS [.sl ((a.getD 9 d0).ll), .i ((r2.getD 0 d0).ii)]).bindR fun r3 =>
 if (decide ((r3.getD 0 d0).ii < (0 : Int))) = true then
 .ret [.i (-1 : Int)]
 else
 .ret [.i ((r3.getD 0 d0).ii)]
theorem eq_laws_szInDef a : r_laws_szInDef a = E_laws_szInDef a := (Run_eq cfg 139 _ a).trans (by kernel_rfl)
noncomputable def E_laws_szEnumDef (a : List DC) : Out :=
 if (decide ((IntKind.i64.wrap ((a.getD 3 d0).ii - (((a.getD 0 d0).ss).length : Int))) < (0 : Int))) = true then
 .ret [.i (-1 : Int)]
 else
 if (decide ((IntKind.i64.wrap ((IntKind.i64.wrap ((a.getD 3 d0).ii - (((a.getD 0 d0).ss).length : Int))) - (((a.getD 1 d0).ss).length : Int))) < (0 : Int))) = true then
 .ret [.i (-1 : Int)]
 else
 (r_laws_szDirS [.sl ((a.getD 2 d0).ll), .i (IntKind.i64.wrap ((IntKind.i64.wrap ((a.getD 3 d0).ii - (((a.getD 0 d0).ss).length : Int))) - (((a.getD 1 d0).ss).length : Int)))]).bindR fun r1 =>
 if (decide ((r1.getD 0 d0).ii < (0 : Int))) = true then
 .ret [.i (-1 : Int)]
 else
 .ret [.i ((r1.getD 0 d0).ii)]
theorem eq_laws_szEnumDef a : r_laws_szEnumDef a = E_laws_szEnumDef a := (Run_eq cfg 140 _ a).trans (by kernel_rfl)
noncomputable def E_laws_szRoot (a : List DC) : Out :=
 if (decide ((IntKind.i64.wrap ((a.getD 2 d0).ii - (((a.getD 1 d0).ss).length : Int))) < (0 : Int))) = true then
 .ret [.i (-1 : Int)]
 else
 .ret [.i (IntKind.i64.wrap ((a.getD 2 d0).ii - (((a.getD 1 d0).ss).length : Int)))]
theorem eq_laws_szRoot a : r_laws_szRoot a = E_laws_szRoot a := (Run_eq cfg 83 _ a).trans (by kernel_rfl)
noncomputable def E_laws_toVarDef (a : List DC) : Out :=
 (r_laws_toType [.s ((a.getD 1 d0).ss), .s ((a.getD 2 d0).ss)]).bindR fun r1 =>
 (r_laws_toValue [.i ((a.getD 4 d0).ii), .s ((a.getD 5 d0).ss), .sl ((a.getD 6 d0).ll), .sl ((a.getD 7 d0).ll)]).bindR fun r2 =>
 (r_laws_toDirS [.sl ((a.getD 8 d0).ll)]).bindR fun r3 =>
 .ret [.s ((a.getD 0 d0).ss), .s ((r1.getD 0 d0).ss), .s ((r1.getD 1 d0).ss), .b ((a.getD 3 d0).bb), .i ((r2.getD 0 d0).ii), .s ((r2.getD 1 d0).ss), .sl ((r2.getD 2 d0).ll), .sl ((r2.getD 3 d0).ll), .sl ((r3.getD 0 d0).ll)]
theorem eq_laws_toVarDef a : r_laws_toVarDef a = E_laws_toVarDef a := (Run_eq cfg 174 _ a).trans (by kernel_rfl)
noncomputable def E_laws_toDir (a : List DC) : Out :=
 (r_laws_toArgS [.sl ((a.getD 1 d0).ll)]).bindR fun r1 =>
 .ret [.s ((a.getD 0 d0).ss), .sl ((r1.getD 0 d0).ll)]
theorem eq_laws_toDir a : r_laws_toDir a = E_laws_toDir a := (Run_eq cfg 145 _ a).trans (by kernel_rfl)
noncomputable def E_laws_toSel (a : List DC) : Out :=
 (r_laws_toArgS [.sl ((a.getD 4 d0).ll)]).bindR fun r1 =>
 (r_laws_toDirS [.sl ((a.getD 5 d0).ll)]).bindR fun r2 =>
 (r_laws_toSelS [.sl ((a.getD 6 d0).ll)]).bindR fun r3 =>
 .ret [.i ((a.getD 0 d0).ii), .s ((a.getD 1 d0).ss), .s ((a.getD 2 d0).ss), .s ((a.getD 3 d0).ss), .sl ((r1.getD 0 d0).ll), .sl ((r2.getD 0 d0).ll), .sl ((r3.getD 0 d0).ll)]
theorem eq_laws_toSel a : r_laws_toSel a = E_laws_toSel a := (Run_eq cfg 175 _ a).trans (by kernel_rfl)
noncomputable def E_laws_toFieldDef (a : List DC) : Out :=
 (r_laws_toInDefS [.sl ((a.getD 2 d0).ll)]).bindR fun r1 =>
 (r_laws_toType [.s ((a.getD 3 d0).ss), .s ((a.getD 4 d0).ss)]).bindR fun r2 =>
 (r_laws_toDirS [.sl ((a.getD 5 d0).ll)]).bindR fun r3 =>
 .ret [.s ((a.getD 0 d0).ss), .s ((a.getD 1 d0).ss), .sl ((r1.getD 0 d0).ll), .s ((r2.getD 0 d0).ss), .s ((r2.getD 1 d0).ss), .sl ((r3.getD 0 d0).ll)]
theorem eq_laws_toFieldDef a : r_laws_toFieldDef a = E_laws_toFieldDef a := (Run_eq cfg 142 _ a).trans (by kernel_rfl)
noncomputable def E_laws_toInDef (a : List DC) : Out :=
 (r_laws_toType [.s ((a.getD 2 d0).ss), .s ((a.getD 3 d0).ss)]).bindR fun r1 =>
 (r_laws_toValue [.i ((a.getD 5 d0).ii), .s ((a.getD 6 d0).ss), .sl ((a.getD 7 d0).ll), .sl ((a.getD 8 d0).ll)]).bindR fun r2 =>
 (r_laws_toDirS [.sl ((a.getD 9 d0).ll)]).bindR fun r3 =>
 .ret [.s ((a.getD 0 d0).ss), .s ((a.getD 1 d0).ss), .s ((r1.getD 0 d0).ss), .s ((r1.getD 1 d0).ss), .b ((a.getD 4 d0).bb), .i ((r2.getD 0 d0).ii), .s ((r2.getD 1 d0).ss), .sl ((r2.getD 2 d0).ll), .sl ((r2.getD 3 d0).ll), .sl ((r3.getD 0 d0).ll)]
theorem eq_laws_toInDef a : r_laws_toInDef a = E_laws_toInDef a := (Run_eq cfg 143 _ a).trans (by kernel_rfl)
noncomputable def E_laws_toEnumDef (a : List DC) : Out :=
 (r_laws_toDirS [.sl ((a.getD 2 d0).ll)]).bindR fun r1 =>
 .ret [.s ((a.getD 0 d0).ss), .s ((a.getD 1 d0).ss), .sl ((r1.getD 0 d0).ll)]
theorem eq_laws_toEnumDef a : r_laws_toEnumDef a = E_laws_toEnumDef a := (Run_eq cfg 144 _ a).trans (by kernel_rfl)
noncomputable def E_laws_toRoot (a : List DC) : Out :=
 .ret [.i ((a.getD 0 d0).ii), .s ((a.getD 1 d0).ss)]
theorem eq_laws_toRoot a : r_laws_toRoot a = E_laws_toRoot a := (Run_eq cfg 88 _ a).trans (by kernel_rfl)
noncomputable def E_laws_eqValueSL1 : List DC → Out := fun v1 =>
 if (decide ((v1.getD 2 d0).ii < (((v1.getD 0 d0).ll).length : Int))) = true then
 Out.andThenB (if 137 = 137 ∧ 0 ≤ (v1.getD 2 d0).ii ∧ (v1.getD 2 d0).ii < (((v1.getD 0 d0).ll).length : Int) then
 if 137 = 137 ∧ 0 ≤ (v1.getD 2 d0).ii ∧ (v1.getD 2 d0).ii < (((v1.getD 1 d0).ll).length : Int) then
 (r_laws_eqValue [.i (((((v1.getD 0 d0).ll).getD ((v1.getD 2 d0).ii).toNat []).getD 0 d0).ii), .s (((((v1.getD 0 d0).ll).getD ((v1.getD 2 d0).ii).toNat []).getD 1 d0).ss), .sl (((((v1.getD 0 d0).ll).getD ((v1.getD 2 d0).ii).toNat []).getD 2 d0).ll), .sl (((((v1.getD 0 d0).ll).getD ((v1.getD 2 d0).ii).toNat []).getD 3 d0).ll), .i (((((v1.getD 1 d0).ll).getD ((v1.getD 2 d0).ii).toNat []).getD 0 d0).ii), .s (((((v1.getD 1 d0).ll).getD ((v1.getD 2 d0).ii).toNat []).getD 1 d0).ss), .sl (((((v1.getD 1 d0).ll).getD ((v1.getD 2 d0).ii).toNat []).getD 2 d0).ll), .sl (((((v1.getD 1 d0).ll).getD ((v1.getD 2 d0).ii).toNat []).getD 3 d0).ll)]).bindR fun r2 =>
 if (!((r2.getD 0 d0).bb)) = true then
 .ret [.b false]
 else
 .norm [.sl ((v1.getD 0 d0).ll), .sl ((v1.getD 1 d0).ll), .i ((v1.getD 2 d0).ii)]
 else
 .fail
 else
 .fail) 1 fun v3 =>
 .norm [.sl ((v3.getD 0 d0).ll), .sl ((v3.getD 1 d0).ll), .i (IntKind.i64.wrap ((v3.getD 2 d0).ii + (1 : Int)))]
 else
 .ex 0 []
noncomputable def E_laws_eqValueS (a : List DC) : Out :=
 if ((((a.getD 0 d0).ll).length : Int) != (((a.getD 1 d0).ll).length : Int)) = true then
 .ret [.b false]
 else
 Out.andThenB (Loop E_laws_eqValueSL1 [.sl ((a.getD 0 d0).ll), .sl ((a.getD 1 d0).ll), .i (0 : Int)]) 0 fun v4 =>
 .ret [.b true]
theorem eq_laws_eqValueS a : r_laws_eqValueS a = E_laws_eqValueS a := (Run_eq cfg 154 _ a).trans (by kernel_rfl)
noncomputable def E_laws_eqArg (a : List DC) : Out :=
 if (!((a.getD 0 d0).ss == (a.getD 5 d0).ss)) = true then
 .ret [.b false]
 else
 (r_laws_eqValue [.i ((a.getD 1 d0).ii), .s ((a.getD 2 d0).ss), .sl ((a.getD 3 d0).ll), .sl ((a.getD 4 d0).ll), .i ((a.getD 6 d0).ii), .s ((a.getD 7 d0).ss), .sl ((a.getD 8 d0).ll), .sl ((a.getD 9 d0).ll)]).bindR fun r1 =>
 if (!((r1.getD 0 d0).bb)) = true then
 .ret [.b false]
 else
 .ret [.b true]
theorem eq_laws_eqArg a : r_laws_eqArg a = E_laws_eqArg a := (Run_eq cfg 155 _ a).trans (by kernel_rfl)
noncomputable def E_laws_eqVarDef (a : List DC) : Out :=
 if (!((a.getD 0 d0).ss == (a.getD 9 d0).ss)) = true then
 .ret [.b false]
 else
 (r_laws_eqType [.s ((a.getD 1 d0).ss), .s ((a.getD 2 d0).ss), .s ((a.getD 10 d0).ss), .s ((a.getD 11 d0).ss)]).bindR fun r1 =>
 if (!((r1.getD 0 d0).bb)) = true then
 .ret [.b false]
 else
 if (!((a.getD 3 d0).bb == (a.getD 12 d0).bb)) = true then
 .ret [.b false]
 else
 (r_laws_eqValue [.i ((a.getD 4 d0).ii), .s ((a.getD 5 d0).ss), .sl ((a.getD 6 d0).ll), .sl ((a.getD 7 d0).ll), .i ((a.getD 13 d0).ii), .s ((a.getD 14 d0).ss), .sl ((a.getD 15 d0).ll), .sl ((a.getD 16 d0).ll)]).bindR fun r2 =>
 if (!((r2.getD 0 d0).bb)) = true then
 .ret [.b false]
 else
 (r_laws_eqDirS [.sl ((a.getD 8 d0).ll), .sl ((a.getD 17 d0).ll)]).bindR fun r3 =>
 if (!((r3.getD 0 d0).bb)) = true then
 .ret [.b false]
 else
 .ret [.b true]
theorem eq_laws_eqVarDef a : r_laws_eqVarDef a = E_laws_eqVarDef a := (Run_eq cfg 176 _ a).trans (by kernel_rfl)
noncomputable def E_laws_eqSel (a : List DC) : Out :=
 if ((a.getD 0 d0).ii != (a.getD 7 d0).ii) = true then
 .ret [.b false]
 else
 if (!((a.getD 1 d0).ss == (a.getD 8 d0).ss)) = true then
 .ret [.b false]
 else
 if (!((a.getD 2 d0).ss == (a.getD 9 d0).ss)) = true then
 .ret [.b false]
 else
 if (!((a.getD 3 d0).ss == (a.getD 10 d0).ss)) = true then
 .ret [.b false]
 else
 (r_laws_eqArgS [.sl ((a.getD 4 d0).ll), .sl ((a.getD 11 d0).ll)]).bindR fun r1 =>
 if (!((r1.getD 0 d0).bb)) = true then
 .ret [.b false]
 else
 (r_laws_eqDirS [.sl ((a.getD 5 d0).ll), .sl ((a.getD 12 d0).ll)]).bindR fun r2 =>
 if (!((r2.getD 0 d0).bb)) = true then
 .ret [.b false]
 else
 (r_laws_eqSelS [.sl ((a.getD 6 d0).ll), .sl ((a.getD 13 d0).ll)]).bindR fun r3 =>
 if (!((r3.getD 0 d0).bb)) = true then
 .ret [.b false]
 else
 .ret [.b true]
theorem eq_laws_eqSel a : r_laws_eqSel a = E_laws_eqSel a := (Run_eq cfg 177 _ a).trans (by kernel_rfl)
noncomputable def E_laws_szType (a : List DC) : Out :=
 if (decide ((IntKind.i64.wrap ((a.getD 2 d0).ii - (((a.getD 0 d0).ss).length : Int))) < (0 : Int))) = true then
 .ret [.i (-1 : Int)]
 else
 if (decide ((IntKind.i64.wrap ((IntKind.i64.wrap ((a.getD 2 d0).ii - (((a.getD 0 d0).ss).length : Int))) - (((a.getD 1 d0).ss).length : Int))) < (0 : Int))) = true then
 .ret [.i (-1 : Int)]
 else
 .ret [.i (IntKind.i64.wrap ((IntKind.i64.wrap ((a.getD 2 d0).ii - (((a.getD 0 d0).ss).length : Int))) - (((a.getD 1 d0).ss).length : Int)))]
theorem eq_laws_szType a : r_laws_szType a = E_laws_szType a := (Run_eq cfg 156 _ a).trans (by kernel_rfl)
noncomputable def E_laws_szValue (a : List DC) : Out :=
 if (decide ((IntKind.i64.wrap ((a.getD 4 d0).ii - (((a.getD 1 d0).ss).length : Int))) < (0 : Int))) = true then
 .ret [.i (-1 : Int)]
 else
 (r_laws_szValueS [.sl ((a.getD 2 d0).ll), .i (IntKind.i64.wrap ((a.getD 4 d0).ii - (((a.getD 1 d0).ss).length : Int)))]).bindR fun r1 =>
 if (decide ((r1.getD 0 d0).ii < (0 : Int))) = true then
 .ret [.i (-1 : Int)]
 else
 (r_laws_szStringS [.sl ((a.getD 3 d0).ll), .i ((r1.getD 0 d0).ii)]).bindR fun r2 =>
 if (decide ((r2.getD 0 d0).ii < (0 : Int))) = true then
 .ret [.i (-1 : Int)]
 else
 .ret [.i ((r2.getD 0 d0).ii)]
theorem eq_laws_szValue a : r_laws_szValue a = E_laws_szValue a := (Run_eq cfg 157 _ a).trans (by kernel_rfl)
noncomputable def E_laws_szArgSL1 : List DC → Out := fun v1 =>
 if (decide ((v1.getD 2 d0).ii < (((v1.getD 0 d0).ll).length : Int))) = true then
 Out.andThenB (if 235 = 235 ∧ 0 ≤ (v1.getD 2 d0).ii ∧ (v1.getD 2 d0).ii < (((v1.getD 0 d0).ll).length : Int) then
 (r_laws_szArg [.s (((((v1.getD 0 d0).ll).getD ((v1.getD 2 d0).ii).toNat []).getD 0 d0).ss), .i (((((v1.getD 0 d0).ll).getD ((v1.getD 2 d0).ii).toNat []).getD 1 d0).ii), .s (((((v1.getD 0 d0).ll).getD ((v1.getD 2 d0).ii).toNat []).getD 2 d0).ss), .sl (((((v1.getD 0 d0).ll).getD ((v1.getD 2 d0).ii).toNat []).getD 3 d0).ll), .sl (((((v1.getD 0 d0).ll).getD ((v1.getD 2 d0).ii).toNat []).getD 4 d0).ll), .i ((v1.getD 1 d0).ii)]).bindR fun r2 =>
 if (decide ((r2.getD 0 d0).ii < (0 : Int))) = true then
 .ret [.i (-1 : Int)]
 else
 .norm [.sl ((v1.getD 0 d0).ll), .i ((r2.getD 0 d0).ii), .i ((v1.getD 2 d0).ii)]
 else
 .fail) 1 fun v3 =>
 .norm [.sl ((v3.getD 0 d0).ll), .i ((v3.getD 1 d0).ii), .i (IntKind.i64.wrap ((v3.getD 2 d0).ii + (1 : Int)))]
 else
 .ex 0 [.i ((v1.getD 1 d0).ii)]
noncomputable def E_laws_szArgS (a : List DC) : Out :=
 if (decide ((IntKind.i64.wrap ((a.getD 1 d0).ii - (((a.getD 0 d0).ll).length : Int))) < (0 : Int))) = true then
 .ret [.i (-1 : Int)]
 else
 Out.andThenB (Loop E_laws_szArgSL1 [.sl ((a.getD 0 d0).ll), .i (IntKind.i64.wrap ((a.getD 1 d0).ii - (((a.getD 0 d0).ll).length : Int))), .i (0 : Int)]) 0 fun v4 =>
 .ret [.i ((v4.getD 0 d0).ii)]
theorem eq_laws_szArgS a : r_laws_szArgS a = E_laws_szArgS a := (Run_eq cfg 158 _ a).trans (by kernel_rfl)
noncomputable def E_laws_toType (a : List DC) : Out :=
 .ret [.s ((a.getD 0 d0).ss), .s ((a.getD 1 d0).ss)]
theorem eq_laws_toType a : r_laws_toType a = E_laws_toType a := (Run_eq cfg 159 _ a).trans (by kernel_rfl)
noncomputable def E_laws_toValue (a : List DC) : Out :=
 (r_laws_toValueS [.sl ((a.getD 2 d0).ll)]).bindR fun r1 =>
 (r_laws_toStringS [.sl ((a.getD 3 d0).ll)]).bindR fun r2 =>
 .ret [.i ((a.getD 0 d0).ii), .s ((a.getD 1 d0).ss), .sl ((r1.getD 0 d0).ll), .sl ((r2.getD 0 d0).ll)]
theorem eq_laws_toValue a : r_laws_toValue a = E_laws_toValue a := (Run_eq cfg 160 _ a).trans (by kernel_rfl)
noncomputable def E_laws_toArgSL1 : List DC → Out := fun v1 =>
 if (decide ((v1.getD 2 d0).ii < (((v1.getD 0 d0).ll).length : Int))) = true then
 Out.andThenB (if 235 = 235 ∧ 0 ≤ (v1.getD 2 d0).ii ∧ (v1.getD 2 d0).ii < (((v1.getD 0 d0).ll).length : Int) then
 (r_laws_toArg [.s (((((v1.getD 0 d0).ll).getD ((v1.getD 2 d0).ii).toNat []).getD 0 d0).ss), .i (((((v1.getD 0 d0).ll).getD ((v1.getD 2 d0).ii).toNat []).getD 1 d0).ii), .s (((((v1.getD 0 d0).ll).getD ((v1.getD 2 d0).ii).toNat []).getD 2 d0).ss), .sl (((((v1.getD 0 d0).ll).getD ((v1.getD 2 d0).ii).toNat []).getD 3 d0).ll), .sl (((((v1.getD 0 d0).ll).getD ((v1.getD 2 d0).ii).toNat []).getD 4 d0).ll)]).bindR fun r2 =>
 if 184 = 184 ∧ 0 ≤ (v1.getD 2 d0).ii ∧ (v1.getD 2 d0).ii < (((v1.getD 1 d0).ll).length : Int) then
 .norm [.sl ((v1.getD 0 d0).ll), .sl (((v1.getD 1 d0).ll).set (((v1.getD 2 d0).ii).toNat) (setRunD (((v1.getD 1 d0).ll).getD (((v1.getD 2 d0).ii).toNat) []) 0 [DC.s ((r2.getD 0 d0).ss), DC.i ((r2.getD 1 d0).ii), DC.s ((r2.getD 2 d0).ss), DC.sl ((r2.getD 3 d0).ll), DC.sl ((r2.getD 4 d0).ll)])), .i ((v1.getD 2 d0).ii)]
 else
 .fail
 else
 .fail) 1 fun v3 =>
 .norm [.sl ((v3.getD 0 d0).ll), .sl ((v3.getD 1 d0).ll), .i (IntKind.i64.wrap ((v3.getD 2 d0).ii + (1 : Int)))]
 else
 .ex 0 [.sl ((v1.getD 1 d0).ll)]
noncomputable def E_laws_toArgS (a : List DC) : Out :=
 if 0 ≤ (((a.getD 0 d0).ll).length : Int) ∧ (((a.getD 0 d0).ll).length : Int) < (LIM : Int) ∧ (((a.getD 0 d0).ll).length : Int) = (((a.getD 0 d0).ll).length : Int) ∧ 88 ≤ 1024 ∧ 0 < 5 ∧ dp 184 = false then
 Out.andThenB (Loop E_laws_toArgSL1 [.sl ((a.getD 0 d0).ll), .sl (List.replicate (((a.getD 0 d0).ll).length : Int).toNat [DC.s [], DC.i 0, DC.s [], DC.sl [], DC.sl []]), .i (0 : Int)]) 0 fun v4 =>
 .ret [.sl ((v4.getD 0 d0).ll)]
 else
 .fail
theorem eq_laws_toArgS a : r_laws_toArgS a = E_laws_toArgS a := (Run_eq cfg 161 _ a).trans (by kernel_rfl)
noncomputable def E_laws_szValueSL1 : List DC → Out := fun v1 =>
 if (decide ((v1.getD 2 d0).ii < (((v1.getD 0 d0).ll).length : Int))) = true then
 Out.andThenB (if 193 = 193 ∧ 0 ≤ (v1.getD 2 d0).ii ∧ (v1.getD 2 d0).ii < (((v1.getD 0 d0).ll).length : Int) then
 (r_laws_szValue [.i (((((v1.getD 0 d0).ll).getD ((v1.getD 2 d0).ii).toNat []).getD 0 d0).ii), .s (((((v1.getD 0 d0).ll).getD ((v1.getD 2 d0).ii).toNat []).getD 1 d0).ss), .sl (((((v1.getD 0 d0).ll).getD ((v1.getD 2 d0).ii).toNat []).getD 2 d0).ll), .sl (((((v1.getD 0 d0).ll).getD ((v1.getD 2 d0).ii).toNat []).getD 3 d0).ll), .i ((v1.getD 1 d0).ii)]).bindR fun r2 =>
 if (decide ((r2.getD 0 d0).ii < (0 : Int))) = true then
 .ret [.i (-1 : Int)]
 else
 .norm [.sl ((v1.getD 0 d0).ll), .i ((r2.getD 0 d0).ii), .i ((v1.getD 2 d0).ii)]
 else
 .fail) 1 fun v3 =>
 .norm [.sl ((v3.getD 0 d0).ll), .i ((v3.getD 1 d0).ii), .i (IntKind.i64.wrap ((v3.getD 2 d0).ii + (1 : Int)))]
 else
 .ex 0 [.i ((v1.getD 1 d0).ii)]
noncomputable def E_laws_szValueS (a : List DC) : Out :=
 if (decide ((IntKind.i64.wrap ((a.getD 1 d0).ii - (((a.getD 0 d0).ll).length : Int))) < (0 : Int))) = true then
 .ret [.i (-1 : Int)]
 else
 Out.andThenB (Loop E_laws_szValueSL1 [.sl ((a.getD 0 d0).ll), .i (IntKind.i64.wrap ((a.getD 1 d0).ii - (((a.getD 0 d0).ll).length : Int))), .i (0 : Int)]) 0 fun v4 =>
 .ret [.i ((v4.getD 0 d0).ii)]
theorem eq_laws_szValueS a : r_laws_szValueS a = E_laws_szValueS a := (Run_eq cfg 168 _ a).trans (by kernel_rfl)
noncomputable def E_laws_szArg (a : List DC) : Out :=
 if (decide ((IntKind.i64.wrap ((a.getD 5 d0).ii - (((a.getD 0 d0).ss).length : Int))) < (0 : Int))) = true then
 .ret [.i (-1 : Int)]
 else
 (r_laws_szValue [.i ((a.getD 1 d0).ii), .s ((a.getD 2 d0).ss), .sl ((a.getD 3 d0).ll), .sl ((a.getD 4 d0).ll), .i (IntKind.i64.wrap ((a.getD 5 d0).ii - (((a.getD 0 d0).ss).length : Int)))]).bindR fun r1 =>
 if (decide ((r1.getD 0 d0).ii < (0 : Int))) = true then
 .ret [.i (-1 : Int)]
 else
 .ret [.i ((r1.getD 0 d0).ii)]
theorem eq_laws_szArg a : r_laws_szArg a = E_laws_szArg a := (Run_eq cfg 169 _ a).trans (by kernel_rfl)
noncomputable def E_laws_toValueSL1 : List DC → Out := fun v1 =>
 if (decide ((v1.getD 2 d0).ii < (((v1.getD 0 d0).ll).length : Int))) = true then
 Out.andThenB (if 193 = 193 ∧ 0 ≤ (v1.getD 2 d0).ii ∧ (v1.getD 2 d0).ii < (((v1.getD 0 d0).ll).length : Int) then
 (r_laws_toValue [.i (((((v1.getD 0 d0).ll).getD ((v1.getD 2 d0).ii).toNat []).getD 0 d0).ii), .s (((((v1.getD 0 d0).ll).getD ((v1.getD 2 d0).ii).toNat []).getD 1 d0).ss), .sl (((((v1.getD 0 d0).ll).getD ((v1.getD 2 d0).ii).toNat []).getD 2 d0).ll), .sl (((((v1.getD 0 d0).ll).getD ((v1.getD 2 d0).ii).toNat []).getD 3 d0).ll)]).bindR fun r2 =>
 if 137 = 137 ∧ 0 ≤ (v1.getD 2 d0).ii ∧ (v1.getD 2 d0).ii < (((v1.getD 1 d0).ll).length : Int) then
 .norm [.sl ((v1.getD 0 d0).ll), .sl (((v1.getD 1 d0).ll).set (((v1.getD 2 d0).ii).toNat) (setRunD (((v1.getD 1 d0).ll).getD (((v1.getD 2 d0).ii).toNat) []) 0 [DC.i ((r2.getD 0 d0).ii), DC.s ((r2.getD 1 d0).ss), DC.sl ((r2.getD 2 d0).ll), DC.sl ((r2.getD 3 d0).ll)])), .i ((v1.getD 2 d0).ii)]
 else
 .fail
 else
 .fail) 1 fun v3 =>
 .norm [.sl ((v3.getD 0 d0).ll), .sl ((v3.getD 1 d0).ll), .i (IntKind.i64.wrap ((v3.getD 2 d0).ii + (1 : Int)))]
 else
 .ex 0 [.sl ((v1.getD 1 d0).ll)]
noncomputable def E_laws_toValueS (a : List DC) : Out :=
 if 0 ≤ (((a.getD 0 d0).ll).length : Int) ∧ (((a.getD 0 d0).ll).length : Int) < (LIM : Int) ∧ (((a.getD 0 d0).ll).length : Int) = (((a.getD 0 d0).ll).length : Int) ∧ 72 ≤ 1024 ∧ 0 < 4 ∧ dp 137 = false then
 Out.andThenB (Loop E_laws_toValueSL1 [.sl ((a.getD 0 d0).ll), .sl (List.replicate (((a.getD 0 d0).ll).length : Int).toNat [DC.i 0, DC.s [], DC.sl [], DC.sl []]), .i (0 : Int)]) 0 fun v4 =>
 .ret [.sl ((v4.getD 0 d0).ll)]
 else
 .fail
theorem eq_laws_toValueS a : r_laws_toValueS a = E_laws_toValueS a := (Run_eq cfg 170 _ a).trans (by kernel_rfl)
noncomputable def E_laws_toArg (a : List DC) : Out :=
 (r_laws_toValue [.i ((a.getD 1 d0).ii), .s ((a.getD 2 d0).ss), .sl ((a.getD 3 d0).ll), .sl ((a.getD 4 d0).ll)]).bindR fun r1 =>
 .ret [.s ((a.getD 0 d0).ss), .i ((r1.getD 0 d0).ii), .s ((r1.getD 1 d0).ss), .sl ((r1.getD 2 d0).ll), .sl ((r1.getD 3 d0).ll)]
theorem eq_laws_toArg a : r_laws_toArg a = E_laws_toArg a := (Run_eq cfg 171 _ a).trans (by kernel_rfl)
end Go.Proofs.QV

