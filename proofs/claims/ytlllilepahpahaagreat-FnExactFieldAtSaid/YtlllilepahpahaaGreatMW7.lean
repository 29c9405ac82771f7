import Derived.Test.YtlllilepahpahaaGreatMW6
import Derived.Lib.SliceRun
import Derived.Test.YtlllilepahpahaaGreatMW5
import Derived.Test.YtlllilepahpahaaGreatProg
/- A function that is met by a contract and gives a copy of a slice (slices.Clone). -/
namespace Go.Proofs.QV
open Go
set_option linter.unusedVariables false
set_option linter.unusedSimpArgs false
def primC (e : Nat) : Hint → List DC → Option (List DC) := fun h v =>
  match h.tm, h.ob, v with
  | [.one (.sl e')], [], [.sl l] => if e' = e ∧ l.length < LIM then some [.sl l] else none
  | _, _, _ => none
def clCond : Code → Code
  | .seq _ (.seq (.seq _ x) _) => x
  | _ => .skip
def clRest : Code → Code
  | .seq _ (.seq _ y) => y
  | _ => .skip
def noFn : Nat → Option FI := fun _ => none
def noCl : Nat → Hint → List DC → Out := fun _ _ _ => .fail
def clRun (ty : Nat → Option TI) (fi : FI) (e : Nat) (ac ar : AC) (b : Bool) (l : List (List DC)) : Out :=
  let h : Hint := ⟨[.one (.sl e)], []⟩
  let st := startSt fi h [.sl l]
  exec ty noFn noCl 0 0 (retOut ty fi h) (.seq ac ar) (fun _ => none) { tm := putC (putC (putC st.tm (some 2) (.one .nil)) (some 3) (.one (.sl e l))) (some 4) (.one (.bool b)), H := st.H } (retOut ty fi h)
structure ClShape (P : Program) (fd : Func) (e : Nat) (ac ar : AC) : Prop where
  ex : ∃ (i0 i1 : Nat) (o0 om ob : Oper) (t t' : Nat), fd.body = some (.seq (.region i0 #[o0] false) (.seq (.seq (.region i1 #[om, ob] false) ac.code) ar.code)) ∧
    (o0.op = .assign (.const (.slice none 0 0)) ∧ o0.dst = some 2 ∧ o0.guard = none) ∧ (om.op = .move (.tmp 0) ∧ om.dst = some 3 ∧ om.guard = none) ∧
    (ob.op = .binOp .eql t (.tmp 3) (.const (.slice none 0 0)) t' ∧ ob.dst = some 4 ∧ ob.guard = none) ∧ P.underlying t = some (.slice e)
section
variable {P : Program} {ty : Nat → Option TI}
theorem eval_put_neq {a : Act} {d e : Nat} {u : Value} (h : d ≠ e) : (a.put (some d) u).eval (.tmp e) = a.eval (.tmp e) := by
  show (a.tmps.setIfInBounds d u).getD e undef = a.tmps.getD e undef
  rw [Array.getD_eq_getD_getElem?, Array.getD_eq_getD_getElem?, Array.getElem?_setIfInBounds_ne h]
theorem prim_clone {G : Glob} {f : Nat} {fi : FI} {fd : Func} {e : Nat} {ac ar : AC} (hty : TyOk P ty) (hmix : P.follows .mixedOrders = true) (h1 : P.funcs[f]? = some fd) (h2 : (fd.name == "runtime.NumGoroutine") = false) (h3 : fd.body.isNone = false)
    (hmk : fi.mark = none) (hp : fi.prim = some (primC e)) (hsh : ClShape P fd e ac ar) (hres : fd.results.toList = fi.res) (hnt : fd.ntmps = fi.ntmps) (hlen : 4 < fi.ntmps)
    (hrun : ∀ b l, (b = true → l = []) → l.length < LIM → clRun ty fi e ac ar b l = .ret [.sl l]) (hstf : fi.stf = none := by rfl) : FnOk P G ty f fi := by
  refine ⟨⟨fd, h1, h2, h3, fun h => by rw [hp] at h; simp at h⟩, fun p hpp h v r en => ?_, fun m hm => (by rw [hmk] at hm; cases hm), fun m hm => (by rw [hstf] at hm; cases hm)⟩
  rw [hp] at hpp
  simp only [Option.some.injEq] at hpp
  subst hpp
  unfold primC at en
  split at en
  · rename_i e' l htm hob
    split at en
    · rename_i hc
      obtain ⟨rfl, hlim⟩ := hc
      simp only [Option.some.injEq] at en
      subst en
      obtain ⟨tm, ob⟩ := h
      dsimp only at htm hob
      subst htm hob
      intro A g vals w hA hr hs hw hm
      have hs1 : vals.size = 1 := by simpa using hs
      obtain ⟨i0, i1, o0, om, ob, t, t', hbody, ⟨x1, x2, x3⟩, ⟨y1, y2, y3⟩, ⟨z1, z2, z3⟩, hu⟩ := hsh.ex
      have t0 := hr.tm 0 _ (vals[0]'(by omega)) (show (startSt fi ⟨[.one (.sl e')], []⟩ [.sl l]).tm[0]? = some (.one (.sl e' l)) from rfl) (by
        dsimp only
        rw [Array.getElem?_append_left (by omega), Array.getElem?_eq_getElem (by omega)])
      obtain ⟨F, t0, t1⟩ := t0
      have hv0 : ∀ v0, RdC ty w (.sl e') (.sl l) v0 F → ∃ ad n cap, v0 = .slice ad n cap ∧ (ad.isNone = true → l = []) := by
        intro v0 h0
        generalize hl0 : l = l0 at h0
        cases h0 with
        | nil _ a c => exact ⟨a, 0, c, rfl, fun _ => rfl⟩
        | sl _ _ b off n cap => exact ⟨_, n, cap, rfl, fun h => by simp at h⟩
      obtain ⟨ad, n, cap, hv0, hnil⟩ := hv0 _ t0
      refine calls_of_wp h1 hbody ?_
      rw [hnt]
      generalize ha0 : ({ tmps := vals ++ Array.replicate (fi.ntmps - vals.size) undef, defers := [] } : Act) = a0 at hr ⊢
      have e0 : a0.eval (.tmp 0) = .slice ad n cap := by
        subst ha0
        show Array.getD _ 0 undef = _
        rw [Array.getD_eq_getD_getElem?, Array.getElem?_append_left (by omega), Array.getElem?_eq_getElem (by omega), hv0]
        rfl
      have n1 : 4 < a0.tmps.size := by subst ha0; simp; omega
      refine wp_seq (wp_region ?_)
      show wpOps P #[o0] _ [0] a0 w
      refine wp_cons_none (o := o0) rfl x3 (wp_value (v := .slice none 0 0) (w' := w) (by simp [execOp, x1, Act.eval]) ?_)
      rw [x2]
      have r1 := hr.put (some 2) (c := .one .nil) (v := .slice none 0 0) rfl
      refine wp_seq (wp_seq (wp_region ?_))
      show wpOps P #[om, ob] _ [0, 1] _ w
      have e1 : (a0.put (some 2) (.slice none 0 0)).eval (.tmp 0) = .slice ad n cap := by rw [eval_put_neq (by decide)]; exact e0
      refine wp_cons_none (o := om) rfl y3 (wp_value (v := .slice ad n cap) (w' := w) (by simp only [execOp, y1, Sem.run_pure]; rw [e1]) ?_)
      rw [y2]
      have r2 := r1.put (some 3) (c := .one (.sl e' l)) (v := .slice ad n cap) ⟨F, by rw [← hv0]; exact t0, t1⟩
      refine wp_cons_none (o := ob) rfl z3 (wp_value (v := .bool ad.isNone) (w' := w) ?_ ?_)
      · have e2 : ((a0.put (some 2) (.slice none 0 0)).put (some 3) (.slice ad n cap)).eval (.tmp 3) = .slice ad n cap := by
          show Array.getD _ 3 undef = _
          rw [Array.getD_eq_getD_getElem?]
          simp only [Act.put]
          rw [Array.getElem?_setIfInBounds_self_of_lt (by simp; omega)]
          rfl
        simp only [execOp, z1]
        rw [e2]
        simp [eqGuard, Act.eval, Lib.run_eql_slice_nil w t e' ad n cap 0 0 hu]
      rw [z2]
      have r3 := r2.put (some 4) (c := .one (.bool ad.isNone)) (v := .bool ad.isNone) rfl
      have hcall : CallStep P ty noFn noCl A := call_step (G := G) (fun f fi h => by simp [noFn] at h) (fun f fi h v r hf e => by simp [noCl] at e) A hA
      have hex := hrun ad.isNone l hnil hlim
      unfold clRun at hex
      dsimp only at hex
      rw [exec] at hex
      have hm0 : A.m = 0 := by rw [hm]; rfl
      have fin : ∀ g' st' a' w', Rel ty A g' st' a' w' → retOut ty fi ⟨[.one (.sl e')], []⟩ st' = .ret [.sl l] → a'.defers = [] ∧ ∃ v, (results fd a'.tmps).run P w' = .ok v w' ∧ ∃ vs, v = resVal vs ∧ Res ty A (KO.vars []) fi.rk [.sl l] vs w' := by
        intro g' st' a' w' hr' hk
        obtain ⟨vs, q1, q2⟩ := ret_ok hty hr' (hn := ⟨[.one (.sl e')], []⟩) hm hk hres
        exact ⟨hr'.df, _, q1, vs, rfl, q2⟩
      refine wp_mono (exec_ok hty hcall hmix hm0 (fun st v => (retOut_ne fi ⟨[.one (.sl e')], []⟩ st).1 v) (fun st id v => (retOut_ne fi ⟨[.one (.sl e')], []⟩ st).2 id v) ac _ _ _ (.ret [.sl l]) g _ w r3 hex (by simp)) fun ex a' w' hq => ?_
      cases ex with
      | normal =>
        obtain ⟨g', st', hr', hk⟩ := hq
        refine wp_mono (exec_ok hty hcall hmix hm0 (fun st v => (retOut_ne fi ⟨[.one (.sl e')], []⟩ st).1 v) (fun st id v => (retOut_ne fi ⟨[.one (.sl e')], []⟩ st).2 id v) ar _ _ _ (.ret [.sl l]) g' _ w' hr' hk (by simp)) fun ex a2 w2 hq2 => ?_
        cases ex with
        | normal =>
          obtain ⟨g2, st2, hr2, hk2⟩ := hq2
          exact fin g2 st2 a2 w2 hr2 hk2
        | ret =>
          obtain ⟨g2, st2, hr2, hk2⟩ := hq2
          exact fin g2 st2 a2 w2 hr2 hk2
        | exit id =>
          obtain ⟨_, _, _, hk, _⟩ := hq2
          simp at hk
        | goto l => exact hq2.elim
        | panic c => exact hq2.elim
        | outgrown => exact hq2.elim
      | ret =>
        obtain ⟨g2, st2, hr2, hk2⟩ := hq
        exact fin g2 st2 a' w' hr2 hk2
      | exit id =>
        obtain ⟨_, _, _, hk, _⟩ := hq
        simp at hk
      | goto l => exact hq.elim
      | panic c => exact hq.elim
      | outgrown => exact hq.elim
    · simp at en
  · simp at en
end
set_option maxRecDepth 100000
abbrev ou : KC := .one .u
abbrev ob : KC := .one .b
abbrev os : KC := .one .s
abbrev oi : KC := .one (.i .i64)
abbrev ol (e : Nat) : KC := .one (.sl e)
def uu (n : Nat) (l : List KC) : List KC := List.replicate n (.one .u) ++ l
def vv (n : Nat) (l : List KO) : List KO := List.replicate n .u ++ l
noncomputable def tyL : List (Nat × TI) := [(3, ⟨.int .i64, [.i .i64], 8, [], false⟩),
  (4, ⟨.bool, [.b], 1, [], false⟩),
  (5, ⟨.int .u8, [.i .u8], 1, [], false⟩),
  (9, ⟨.str, [.s], 16, [], false⟩),
  (22, ⟨.slice 79, [.sl 79], 24, [], false⟩),
  (23, ⟨.slice 112, [.sl 112], 24, [], false⟩),
  (25, ⟨.struct, [.sl 79, .sl 79, .sl 112], 72, [(0, 1, false), (1, 1, false), (2, 1, false)], false⟩),
  (27, ⟨.slice 123, [.sl 123], 24, [], false⟩),
  (29, ⟨.struct, [.s, .s], 32, [(0, 1, false), (1, 1, false)], false⟩),
  (30, ⟨.slice 127, [.sl 127], 24, [], false⟩),
  (32, ⟨.struct, [.s, .s, .sl 123, .s, .s, .sl 127], 112, [(0, 1, false), (1, 1, false), (2, 1, false), (3, 2, true), (5, 1, false)], false⟩),
  (35, ⟨.slice 84, [.sl 84], 24, [], false⟩),
  (36, ⟨.slice 109, [.sl 109], 24, [], false⟩),
  (38, ⟨.struct, [.sl 84, .sl 84, .sl 109], 72, [(0, 1, false), (1, 1, false), (2, 1, false)], false⟩),
  (55, ⟨.slice 9, [.sl 9], 24, [], false⟩),
  (63, ⟨.slice 32, [.sl 32], 24, [], false⟩),
  (74, ⟨.slice 164, [.sl 164], 24, [], false⟩),
  (75, ⟨.slice 170, [.sl 170], 24, [], false⟩),
  (76, ⟨.slice 173, [.sl 173], 24, [], false⟩),
  (77, ⟨.slice 177, [.sl 177], 24, [], false⟩),
  (79, ⟨.struct, [.i .i64, .b, .s, .s, .sl 9, .sl 164, .sl 170, .sl 173, .sl 112, .b, .sl 177], 200, [(0, 1, false), (1, 1, false), (2, 1, false), (3, 1, false), (4, 1, false), (5, 1, false), (6, 1, false), (7, 1, false), (8, 1, false), (9, 1, false), (10, 1, false)], false⟩),
  (82, ⟨.slice 145, [.sl 145], 24, [], false⟩),
  (84, ⟨.struct, [.i .i64, .b, .s, .s, .sl 9, .sl 32, .sl 123, .sl 145, .sl 109, .b, .sl 127], 200, [(0, 1, false), (1, 1, false), (2, 1, false), (3, 1, false), (4, 1, false), (5, 1, false), (6, 1, false), (7, 1, false), (8, 1, false), (9, 1, false), (10, 1, false)], false⟩),
  (109, ⟨.struct, [.i .i64, .s], 24, [(0, 1, false), (1, 1, false)], false⟩),
  (112, ⟨.struct, [.i .i64, .s], 24, [(0, 1, false), (1, 1, false)], false⟩),
  (119, ⟨.slice 121, [.sl 121], 24, [], false⟩),
  (121, ⟨.struct, [.i .i64, .s, .sl 121, .sl 9], 72, [(0, 1, false), (1, 1, false), (2, 1, false), (3, 1, false)], false⟩),
  (123, ⟨.struct, [.s, .s, .s, .s, .b, .i .i64, .s, .sl 121, .sl 9, .sl 127], 168, [(0, 1, false), (1, 1, false), (2, 2, true), (4, 1, false), (5, 4, true), (9, 1, false)], false⟩),
  (125, ⟨.slice 160, [.sl 160], 24, [], false⟩),
  (127, ⟨.struct, [.s, .sl 160], 40, [(0, 1, false), (1, 1, false)], false⟩),
  (143, ⟨.slice 5, [.sl 5], 24, [], false⟩),
  (145, ⟨.struct, [.s, .s, .sl 127], 56, [(0, 1, false), (1, 1, false), (2, 1, false)], false⟩),
  (160, ⟨.struct, [.s, .i .i64, .s, .sl 121, .sl 9], 88, [(0, 1, false), (1, 4, true)], false⟩),
  (162, ⟨.struct, [.s, .s], 32, [(0, 1, false), (1, 1, false)], false⟩),
  (164, ⟨.struct, [.s, .s, .sl 170, .s, .s, .sl 177], 112, [(0, 1, false), (1, 1, false), (2, 1, false), (3, 2, true), (5, 1, false)], false⟩),
  (166, ⟨.slice 168, [.sl 168], 24, [], false⟩),
  (168, ⟨.struct, [.i .i64, .s, .sl 168, .sl 9], 72, [(0, 1, false), (1, 1, false), (2, 1, false), (3, 1, false)], false⟩),
  (170, ⟨.struct, [.s, .s, .s, .s, .b, .i .i64, .s, .sl 168, .sl 9, .sl 177], 168, [(0, 1, false), (1, 1, false), (2, 2, true), (4, 1, false), (5, 4, true), (9, 1, false)], false⟩),
  (173, ⟨.struct, [.s, .s, .sl 177], 56, [(0, 1, false), (1, 1, false), (2, 1, false)], false⟩),
  (175, ⟨.slice 221, [.sl 221], 24, [], false⟩),
  (177, ⟨.struct, [.s, .sl 221], 40, [(0, 1, false), (1, 1, false)], false⟩),
  (221, ⟨.struct, [.s, .i .i64, .s, .sl 168, .sl 9], 88, [(0, 1, false), (1, 4, true)], false⟩)]
theorem tys : tyB Tryz.prog tyL = true := by kernel_rfl
noncomputable def fi67 : FI := mkFI Tryz.f67 1 [.ct (.i .i64)] [(false, [.ct .s])] (fun _ => (.s .n (.s .n (.s .n (.s (.b (.b (.s .n (.b (.s (.r [0, 0, 0, 0, 0, 0, 0, 0, 0] none) .n) ⟨oi :: ou :: ou :: os :: uu 16 [], .u :: []⟩)) ⟨oi :: ou :: ou :: os :: uu 16 [], .u :: []⟩) ⟨uu 3 (os :: uu 16 []), .u :: []⟩) .n)))))
noncomputable def E_laws_markTextL1 : List DC → Out := fun v1 =>
    if (decide ((v1.getD 0 d0).ii > (0 : Int))) = true then
      Out.andThenB (if (10 : Int) = 0 then
          .fail
        else
          if (rowBytes [[DC.i (IntKind.u8.wrap (IntKind.i64.wrap ((48 : Int) + (((v1.getD 0 d0).ii).tmod (10 : Int)))))]]).length + ((v1.getD 1 d0).ss).length < LIM then
            if (10 : Int) = 0 then
              .fail
            else
              .norm [.i (IntKind.i64.wrap (((v1.getD 0 d0).ii).tdiv (10 : Int))), .s ((rowBytes [[DC.i (IntKind.u8.wrap (IntKind.i64.wrap ((48 : Int) + (((v1.getD 0 d0).ii).tmod (10 : Int)))))]]) ++ ((v1.getD 1 d0).ss))]
          else
            .fail) 1 fun v2 =>
      .norm [.i ((v2.getD 0 d0).ii), .s ((v2.getD 1 d0).ss)]
    else
      .ex 0 [.s ((v1.getD 1 d0).ss)]
noncomputable def E_laws_markText (a : List DC) : Out :=
    if (decide ((a.getD 0 d0).ii ≤ (0 : Int))) = true then
      .ret [.s ([109, 48] : List UInt8)]
    else
      Out.andThenB (Loop E_laws_markTextL1 [.i ((a.getD 0 d0).ii), .s ([] : List UInt8)]) 0 fun v3 =>
      if ([109] : List UInt8).length + ((v3.getD 0 d0).ss).length < LIM then
        .ret [.s (([109] : List UInt8) ++ ((v3.getD 0 d0).ss))]
      else
        .fail
noncomputable def cfg0 : Cfg := ⟨fun t => look t tyL, fun f => look f [(67, fi67)]⟩
theorem fns0 : ∀ x ∈ [(67, fi67)], FnOk Tryz.prog Glob.none cfg0.ty x.1 x.2 := all_cons (mkFI_ok Tryz.func67 (by kernel_rfl)) all_nil
theorem eq0 (a : List DC) : Run cfg0 67 ⟨[.one (.i .i64)], []⟩ a = E_laws_markText a := (Run_eq cfg0 67 _ a).trans (by kernel_rfl)
theorem mt_step (k : Int) (o : List UInt8) (h0 : 0 < k) (h1 : k < 4611686018427387904) (ho : o.length ≤ 100) : ∃ c, E_laws_markTextL1 [.i k, .s o] = .norm [.i (k / 10), .s (c :: o)] := by
  have hw : IntKind.i64.wrap (k.tdiv 10) = k / 10 := by
    rw [Int.tdiv_eq_ediv_of_nonneg (by omega)]
    exact wrap64 (by omega) (by omega)
  have hl : 1 + o.length < LIM := by unfold LIM; omega
  refine ⟨UInt8.ofNat (IntKind.u8.wrap (IntKind.i64.wrap (48 + k.tmod 10))).toNat, ?_⟩
  simp only [E_laws_markTextL1, List.getD_cons_zero, List.getD_cons_succ, DC.ii_i, DC.ss_s, hw]
  simp [h0, hl, rowBytes, Out.andThenB]
  try rfl
theorem mt_loop : ∀ (m : Nat) (k : Int) (o : List UInt8), 0 ≤ k → k < 4611686018427387904 → k < 10 ^ m → o.length + m ≤ 100 → ∃ s : List UInt8, s.length ≤ 100 ∧ Loop E_laws_markTextL1 [.i k, .s o] = .ex 0 [.s s]
  | 0, k, o, h0, _, h1, ho => by
    have : k = 0 := by simp at h1; omega
    subst this
    exact ⟨o, by omega, Loop_ex (by simp [E_laws_markTextL1])⟩
  | m + 1, k, o, h0, hb, h1, ho => by
    by_cases hk : 0 < k
    · obtain ⟨c, hc⟩ := mt_step k o hk hb (by omega)
      rw [Loop_norm hc]
      refine mt_loop m (k / 10) (c :: o) (by omega) (by omega) ?_ (by simp; omega)
      rw [Int.pow_succ] at h1
      omega
    · have : k = 0 := by omega
      subst this
      exact ⟨o, by omega, Loop_ex (by simp [E_laws_markTextL1])⟩
theorem mt_ok (k : Int) (h0 : 0 ≤ k) (h1 : k < 4611686018427387904) : ∃ s, E_laws_markText [.i k] = .ret [.s s] := by
  by_cases hk : k ≤ 0
  · exact ⟨[109, 48], by simp [E_laws_markText, hk]⟩
  · obtain ⟨s, hs, h⟩ := mt_loop 19 k [] h0 h1 (by have : (10 : Int) ^ 19 = 10000000000000000000 := by decide
                                                   omega) (by simp)
    have hl : 1 + s.length < LIM := by unfold LIM; omega
    refine ⟨109 :: s, ?_⟩
    simp only [E_laws_markText, List.getD_cons_zero, List.getD_cons_succ, DC.ii_i, DC.ss_s, h, Out.andThenB]
    simp [hk, hl, Nat.add_comm]
    try (unfold LIM; omega)
noncomputable def mtx (k : Int) : List UInt8 := match E_laws_markText [.i k] with | .ret [.s s] => s | _ => []
theorem mtx_eq {k : Int} (h0 : 0 ≤ k) (h1 : k < 4611686018427387904) : E_laws_markText [.i k] = .ret [.s (mtx k)] := by
  obtain ⟨s, h⟩ := mt_ok k h0 h1
  unfold mtx
  rw [h]
noncomputable def mT : Int → Option (List UInt8) := fun k => some (mtx k)
def ms23 : List MA := [.int 0, .inc, .bool 1, .inc, .txt 2, .inc, .txt 3, .inc, .sub 4 30, .upd, .sub 5 68, .upd, .sub 6 48, .upd, .sub 7 69, .upd, .sub 8 47, .upd, .bool 9, .inc, .sub 10 49, .upd]
def ms30 : List MA := [.txt 0, .inc]
def ms47 : List MA := [.int 0, .inc, .txt 1, .inc]
def ms48 : List MA := [.txt 0, .inc, .txt 1, .inc, .txt 2, .inc, .txt 3, .inc, .bool 4, .inc, .int 5, .inc, .txt 6, .inc, .sub 7 99, .upd, .sub 8 30, .upd, .sub 9 49, .upd]
def ms49 : List MA := [.txt 0, .inc, .sub 1 100, .upd]
def ms68 : List MA := [.txt 0, .inc, .txt 1, .inc, .sub 2 48, .upd, .txt 3, .inc, .txt 4, .inc, .sub 5 49, .upd]
def ms69 : List MA := [.txt 0, .inc, .txt 1, .inc, .sub 2 49, .upd]
def ms99 : List MA := [.int 0, .inc, .txt 1, .inc, .sub 2 99, .upd, .sub 3 30, .upd]
def ms100 : List MA := [.txt 0, .inc, .int 1, .inc, .txt 2, .inc, .sub 3 99, .upd, .sub 4 30, .upd]
noncomputable def ti9 : TI := ⟨.str, [.s], 16, [], false⟩
noncomputable def ti32 : TI := ⟨.struct, [.s, .s, .sl 123, .s, .s, .sl 127], 112, [(0, 1, false), (1, 1, false), (2, 1, false), (3, 2, true), (5, 1, false)], false⟩
noncomputable def ti84 : TI := ⟨.struct, [.i .i64, .b, .s, .s, .sl 9, .sl 32, .sl 123, .sl 145, .sl 109, .b, .sl 127], 200, [(0, 1, false), (1, 1, false), (2, 1, false), (3, 1, false), (4, 1, false), (5, 1, false), (6, 1, false), (7, 1, false), (8, 1, false), (9, 1, false), (10, 1, false)], false⟩
noncomputable def ti109 : TI := ⟨.struct, [.i .i64, .s], 24, [(0, 1, false), (1, 1, false)], false⟩
noncomputable def ti121 : TI := ⟨.struct, [.i .i64, .s, .sl 121, .sl 9], 72, [(0, 1, false), (1, 1, false), (2, 1, false), (3, 1, false)], false⟩
noncomputable def ti123 : TI := ⟨.struct, [.s, .s, .s, .s, .b, .i .i64, .s, .sl 121, .sl 9, .sl 127], 168, [(0, 1, false), (1, 1, false), (2, 2, true), (4, 1, false), (5, 4, true), (9, 1, false)], false⟩
noncomputable def ti127 : TI := ⟨.struct, [.s, .sl 160], 40, [(0, 1, false), (1, 1, false)], false⟩
noncomputable def ti145 : TI := ⟨.struct, [.s, .s, .sl 127], 56, [(0, 1, false), (1, 1, false), (2, 1, false)], false⟩
noncomputable def ti160 : TI := ⟨.struct, [.s, .i .i64, .s, .sl 121, .sl 9], 88, [(0, 1, false), (1, 4, true)], false⟩
def mTab : Nat → Option (List MA) := fun f => look f [(23, ms23), (30, ms30), (47, ms47), (48, ms48), (49, ms49), (68, ms68), (69, ms69), (99, ms99), (100, ms100)]
def mMt : Nat → Option Nat := fun f => look f [(23, 84), (30, 9), (47, 109), (48, 123), (49, 127), (68, 32), (69, 145), (99, 121), (100, 160)]
theorem mtabok : TabOk Tryz.prog (fun t => look t tyL) mT 67 mMt mTab where
  tyo := (tyB_ok tys).1
  fd := by
    rintro f (rfl | ⟨e, he⟩)
    · exact ⟨_, Tryz.func67, by kernel_rfl, rfl⟩
    have := look_mem he
    simp only [List.mem_cons, Prod.mk.injEq, List.not_mem_nil, or_false] at this
    rcases this with ⟨rfl, rfl⟩ | ⟨rfl, rfl⟩ | ⟨rfl, rfl⟩ | ⟨rfl, rfl⟩ | ⟨rfl, rfl⟩ | ⟨rfl, rfl⟩ | ⟨rfl, rfl⟩ | ⟨rfl, rfl⟩ | ⟨rfl, rfl⟩
    · exact ⟨_, Tryz.func23, by kernel_rfl, rfl⟩
    · exact ⟨_, Tryz.func30, by kernel_rfl, rfl⟩
    · exact ⟨_, Tryz.func47, by kernel_rfl, rfl⟩
    · exact ⟨_, Tryz.func48, by kernel_rfl, rfl⟩
    · exact ⟨_, Tryz.func49, by kernel_rfl, rfl⟩
    · exact ⟨_, Tryz.func68, by kernel_rfl, rfl⟩
    · exact ⟨_, Tryz.func69, by kernel_rfl, rfl⟩
    · exact ⟨_, Tryz.func99, by kernel_rfl, rfl⟩
    · exact ⟨_, Tryz.func100, by kernel_rfl, rfl⟩
  tfc := by
    intro k s w h0 h1 hs
    obtain rfl : mtx k = s := Option.some.inj hs
    exact int_calls (cfg := cfg0) (G := Glob.none) (tyB_ok tys).1 (by kernel_rfl) (fn_ok fns0) (f := 67) (fi := fi67) (by kernel_rfl) ⟨trivial, fun _ h => h.elim⟩ rfl rfl (Run.evt ((eq0 _).trans (mtx_eq h0 h1)))
  tfs := fun k _ _ => ⟨_, rfl⟩
  sh := by
    intro f e he
    have := look_mem he
    simp only [List.mem_cons, Prod.mk.injEq, List.not_mem_nil, or_false] at this
    rcases this with ⟨rfl, rfl⟩ | ⟨rfl, rfl⟩ | ⟨rfl, rfl⟩ | ⟨rfl, rfl⟩ | ⟨rfl, rfl⟩ | ⟨rfl, rfl⟩ | ⟨rfl, rfl⟩ | ⟨rfl, rfl⟩ | ⟨rfl, rfl⟩
    · exact ⟨ti84, Tryz.f23, ms23, by kernel_rfl, Tryz.func23, by kernel_rfl, by kernel_rfl⟩
    · exact ⟨ti9, Tryz.f30, ms30, by kernel_rfl, Tryz.func30, by kernel_rfl, by kernel_rfl⟩
    · exact ⟨ti109, Tryz.f47, ms47, by kernel_rfl, Tryz.func47, by kernel_rfl, by kernel_rfl⟩
    · exact ⟨ti123, Tryz.f48, ms48, by kernel_rfl, Tryz.func48, by kernel_rfl, by kernel_rfl⟩
    · exact ⟨ti127, Tryz.f49, ms49, by kernel_rfl, Tryz.func49, by kernel_rfl, by kernel_rfl⟩
    · exact ⟨ti32, Tryz.f68, ms68, by kernel_rfl, Tryz.func68, by kernel_rfl, by kernel_rfl⟩
    · exact ⟨ti145, Tryz.f69, ms69, by kernel_rfl, Tryz.func69, by kernel_rfl, by kernel_rfl⟩
    · exact ⟨ti121, Tryz.f99, ms99, by kernel_rfl, Tryz.func99, by kernel_rfl, by kernel_rfl⟩
    · exact ⟨ti160, Tryz.f100, ms100, by kernel_rfl, Tryz.func100, by kernel_rfl, by kernel_rfl⟩
noncomputable def h_slices_Clone_string : Hint := ⟨ol 9 :: [], []⟩
noncomputable def fi3 : FI := mkFI Tryz.f3 36 [.ag [.sl 79, .sl 79, .sl 112], .ct .s, .ct .s] [(false, [.ct .b])] (fun _ => (.s (.r [0, 0] none) (.s .n (.s .n (.s .n (.s .n (.s .n (.s (.r [0, 1, 0, 0, 4, 0, 0, 0, 6, 0, 0] none) (.s (.r [0, 7, 10, 0] none) (.s (.r [0, 0, 0, 11, 0, 0, 0, 13, 0, 0] none) (.s (.s (.r [] (some ⟨ou :: os :: os :: .one (.ptr 0 0) :: uu 4 (.one (.ptr 6 0) :: ob :: .one (.ptr 10 0) :: .one (.ptr 13 0) :: ob :: uu 41 (ob :: uu 57 [])), .var 25 [.sl 79, .sl 79, .sl 112] :: vv 5 (.var 32 [.s, .s, .own 2123 14, .s, .s, .own 2127 15] :: vv 3 (.var 38 [.own 1084 16, .own 1084 17, .own 109 18] :: .u :: .u :: .var 32 [.s, .s, .own 2123 19, .s, .s, .own 2127 20] :: vv 22 []))⟩)) .n) (.s (.s (.r [0, 0, 21, 0, 0] none) .n) (.s .n (.s .n (.s (.s (.r [] (some ⟨ou :: os :: os :: .one (.ptr 0 0) :: uu 4 (.one (.ptr 6 0) :: ob :: ou :: .one (.ptr 13 0) :: uu 63 (ob :: uu 36 [])), .var 25 [.sl 79, .sl 79, .sl 112] :: vv 5 (.var 32 [.s, .s, .own 2123 24, .s, .s, .own 2127 25] :: vv 6 (.var 32 [.s, .s, .own 2123 26, .s, .s, .own 2127 27] :: vv 22 []))⟩)) .n) (.s .n (.s .n (.s .n (.s .n (.s .n (.s .n (.s (.r [0, 28, 0, 0, 31, 0, 0, 0, 33, 0, 0] none) (.s (.s (.r [] (some ⟨uu 11 (.one (.ptr 13 0) :: ou :: ou :: oi :: uu 88 (ob :: uu 8 [])), vv 13 (.var 32 [.s, .s, .own 2123 34, .s, .s, .own 2127 35] :: vv 22 [])⟩)) .n) .n)))))))))))))))))))))))
noncomputable def fi8 : FI := mkFI Tryz.f8 1 [.ag [.sl 79, .sl 79, .sl 112], .ct (.i .i64)] [(false, [.ct (.i .i64)])] (fun _ => (.s (.r [0, 0] none) .n))
noncomputable def fi10 : FI := mkFI Tryz.f10 6 [.ag [.sl 79, .sl 79, .sl 112]] [(true, [.new 1084, .new 1084, .new 109])] (fun _ => (.s (.r [0, 1] none) (.s (.r [2] none) (.s (.r [0, 0, 3, 0, 0] none) (.s (.r [0, 0, 4, 0, 0] none) (.s (.r [0, 0, 5, 0, 0] none) .n))))))
noncomputable def fi9 : FI := mkFI Tryz.f9 12 [.ag [.sl 84, .sl 84, .sl 109], .ct .s, .ct .s] [(true, [.ct .s, .ct .s, .new 2123, .ct .s, .ct .s, .new 2127]), (false, [.ct .b])] (fun _ => (.s (.r [0, 1, 0] none) (.s (.r [2, 0, 0, 0, 0, 0, 0, 5, 0, 0] none) (.s (.r [6, 8, 9, 0, 10, 0, 0, 0] none) .n))))
noncomputable def fi11 : FI := mkFI Tryz.f11 12 [.ag [.sl 84, .sl 84, .sl 109], .ct .s, .ct .s] [(true, [.ct .s, .ct .s, .new 2123, .ct .s, .ct .s, .new 2127]), (false, [.ct .b])] (fun _ => (.s (.r [0, 1, 0] none) (.s (.r [2, 0, 0, 0, 0, 0, 0, 5, 0, 0] none) (.s .n (.s (.r [6, 8, 9, 0, 10, 0, 0] none) .n)))))
noncomputable def fi12 : FI := mkFI Tryz.f12 2 [.ag [.s, .s, .sl 123, .s, .s, .sl 127], .ag [.s, .s, .sl 123, .s, .s, .sl 127]] [(false, [.ct .b])] (fun _ => (.s (.r [0, 1, 0] none) .n))
noncomputable def fi13 : FI := mkFI Tryz.f13 2 [.ag [.sl 84, .sl 84, .sl 109], .ag [.sl 84, .sl 84, .sl 109]] [(false, [.ct .b])] (fun _ => (.s (.r [0, 1, 0] none) .n))
noncomputable def fi16 : FI := mkFI Tryz.f16 1 [.ag [.s, .s, .sl 123, .s, .s, .sl 127], .ct (.i .i64)] [(false, [.ct (.i .i64)])] (fun _ => (.s (.r [0, 0] none) .n))
noncomputable def fi17 : FI := mkFI Tryz.f17 0 [.ct (.sl 79), .ct (.i .i64)] [(false, [.ct (.i .i64)])] (fun _ => (.s .n (.s .n (.s .n (.s (.s .n (.b (.b (.s .n (.s (.b .n ⟨ol 79 :: oi :: uu 3 (oi :: uu 21 []), []⟩) .n)) ⟨ol 79 :: oi :: uu 3 (oi :: uu 21 []), []⟩) ⟨ou :: oi :: uu 25 [], []⟩)) .n)))))
noncomputable def fi37 : FI := mkFI Tryz.f37 0 [.ct (.sl 112), .ct (.i .i64)] [(false, [.ct (.i .i64)])] (fun _ => (.s .n (.s .n (.s .n (.s (.s .n (.b (.b (.s .n (.s (.b .n ⟨ol 112 :: oi :: uu 3 (oi :: uu 21 []), []⟩) .n)) ⟨ol 112 :: oi :: uu 3 (oi :: uu 21 []), []⟩) ⟨ou :: oi :: uu 25 [], []⟩)) .n)))))
noncomputable def fi19 : FI := mkFI Tryz.f19 11 [.ct (.sl 79)] [(false, [.new 1084])] (fun _ => (.s .n (.s (.r [0, 0, 1, 0] none) (.s (.s .n (.b (.b (.s .n (.s (.b (.r [0, 0, 0, 0, 0, 0, 3, 0, 0] none) ⟨ol 79 :: ou :: ou :: .one (.own 1084 9) :: oi :: uu 18 [], vv 11 []⟩) .n)) ⟨ol 79 :: ou :: ou :: .one (.own 1084 2) :: oi :: uu 18 [], vv 11 []⟩) ⟨uu 3 (.one (.own 1084 10) :: uu 19 []), vv 11 []⟩)) .n))))
noncomputable def fi40 : FI := mkFI Tryz.f40 4 [.ct (.sl 112)] [(false, [.new 109])] (fun _ => (.s .n (.s (.r [0, 0, 0, 0] none) (.s (.s .n (.b (.b (.s .n (.s (.b .n ⟨ol 112 :: ou :: ou :: .one (.own 109 2) :: oi :: uu 18 [], vv 4 []⟩) .n)) ⟨ol 112 :: ou :: ou :: .one (.own 109 1) :: oi :: uu 18 [], vv 4 []⟩) ⟨uu 3 (.one (.own 109 3) :: uu 19 []), vv 4 []⟩)) .n))))
noncomputable def fi38 : FI := mkFI Tryz.f38 2 [.ag [.sl 84, .sl 84, .sl 109], .ct .s, .ct .s] [(true, [.ct .s, .ct .s, .ct (.sl 123), .ct .s, .ct .s, .ct (.sl 127)]), (false, [.ct .b])] (fun _ => (.s (.r [0, 1, 0] none) (.s (.s (.r [] (some ⟨ou :: os :: os :: .one (.ptr 0 0) :: ou :: ou :: .one (.ptr 1 0) :: uu 10 (ob :: uu 51 []), .var 38 [.sl 84, .sl 84, .sl 109] :: .var 32 [.s, .s, .nil, .s, .s, .nil] :: []⟩)) .n) (.s .n (.s (.s (.r [] (some ⟨ou :: ou :: os :: .one (.ptr 0 0) :: ou :: ou :: .one (.ptr 1 0) :: ou :: oi :: uu 34 (ob :: uu 25 []), .var 38 [.sl 84, .sl 84, .sl 109] :: .var 32 [.s, .s, .nil, .s, .s, .nil] :: []⟩)) .n) (.s .n (.s (.s .n (.b (.b (.s .n (.s (.b .n ⟨ou :: ou :: os :: uu 3 (.one (.ptr 1 0) :: ou :: ou :: ol 32 :: oi :: uu 58 []), .u :: .var 32 [.s, .s, .nil, .s, .s, .nil] :: []⟩) .n)) ⟨ou :: ou :: os :: uu 3 (.one (.ptr 1 0) :: ou :: ou :: ol 32 :: oi :: uu 58 []), .u :: .var 32 [.s, .s, .nil, .s, .s, .nil] :: []⟩) ⟨uu 6 (.one (.ptr 1 0) :: uu 62 []), .u :: .var 32 [.s, .s, .nil, .s, .s, .nil] :: []⟩)) .n)))))))
noncomputable def fi39 : FI := mkFI Tryz.f39 11 [.ct (.sl 32)] [(false, [.new 1032])] (fun _ => (.s .n (.s (.r [1, 0] none) (.s (.s .n (.b (.b (.s .n (.s (.b (.s (.r [0, 0, 0, 0, 3, 0] none) (.s (.r [0, 0, 4, 0, 0] none) (.s (.r [0, 0, 5, 0, 0] none) (.r [0, 0, 7, 8, 0] none)))) ⟨ol 32 :: ou :: ou :: .one (.own 1032 9) :: oi :: uu 25 [], vv 11 []⟩) .n)) ⟨ol 32 :: ou :: ou :: .one (.own 1032 2) :: oi :: uu 25 [], vv 11 []⟩) ⟨uu 3 (.one (.own 1032 10) :: uu 26 []), vv 11 []⟩)) .n))))
noncomputable def fi41 : FI := mkFI Tryz.f41 3 [.ag [.sl 84, .sl 84, .sl 109], .ct .s, .ct .s] [(true, [.ct .s, .ct .s, .ct (.sl 123), .ct .s, .ct .s, .ct (.sl 127)]), (false, [.ct .b])] (fun _ => (.s (.r [0, 1, 0] none) (.s (.s (.r [] (some ⟨ou :: os :: os :: .one (.ptr 0 0) :: ou :: ou :: .one (.ptr 1 0) :: uu 9 (ob :: uu 22 []), .var 38 [.sl 84, .sl 84, .sl 109] :: .var 32 [.s, .s, .nil, .s, .s, .nil] :: .u :: []⟩)) .n) (.s (.r [0, 0, 0, 0, 0, 0, 2, 0, 0] none) (.s (.s (.r [] (some ⟨ou :: ou :: os :: uu 3 (.one (.ptr 1 0) :: ou :: .one (.ptr 2 0) :: uu 23 (ob :: uu 6 [])), .u :: .var 32 [.s, .s, .nil, .s, .s, .nil] :: .var 84 [.i .i64, .b, .s, .s, .sl 9, .sl 32, .sl 123, .sl 145, .sl 109, .b, .sl 127] :: []⟩)) .n) .n)))))
noncomputable def fi42 : FI := mkFI Tryz.f42 8 [.ct (.sl 32)] [(false, [.new 1032])] (fun _ => (.s .n (.s .n (.s (.s .n (.b (.b (.s .n (.s .n (.s (.b (.s (.r [0, 0, 0, 0] none) (.s (.r [0, 0, 1, 0, 0] none) (.s (.r [0, 0, 2, 0, 0] none) (.r [0, 0, 3, 4, 0] none)))) ⟨uu 3 (.one (.own 1032 5) :: ou :: ou :: ol 32 :: oi :: oi :: uu 17 []), vv 8 []⟩) .n))) ⟨uu 3 (.one (.own 1032 6) :: ou :: ou :: ol 32 :: oi :: oi :: uu 17 []), vv 8 []⟩) ⟨uu 3 (.one (.own 1032 7) :: uu 22 []), vv 8 []⟩)) .n))))
noncomputable def fi43 : FI := mkFI Tryz.f43 0 [.ct (.sl 123), .ct (.sl 123)] [(false, [.ct .b])] (fun _ => (.s .n (.s .n (.s (.s .n (.b (.b (.s .n (.s (.b .n ⟨ol 123 :: ol 123 :: uu 3 (oi :: uu 21 []), []⟩) .n)) ⟨ol 123 :: ol 123 :: uu 3 (oi :: uu 21 []), []⟩) ⟨uu 27 [], []⟩)) .n))))
noncomputable def fi44 : FI := mkFI Tryz.f44 2 [.ag [.s, .s], .ag [.s, .s]] [(false, [.ct .b])] (fun _ => (.s (.r [0, 1, 0] none) .n))
noncomputable def fi45 : FI := mkFI Tryz.f45 0 [.ct (.sl 127), .ct (.sl 127)] [(false, [.ct .b])] (fun _ => (.s .n (.s .n (.s (.s .n (.b (.b (.s .n (.s (.b .n ⟨ol 127 :: ol 127 :: uu 3 (oi :: uu 21 []), []⟩) .n)) ⟨ol 127 :: ol 127 :: uu 3 (oi :: uu 21 []), []⟩) ⟨uu 27 [], []⟩)) .n))))
noncomputable def fi21 : FI := mkFI Tryz.f21 0 [.ct (.sl 84), .ct (.sl 84)] [(false, [.ct .b])] (fun _ => (.s .n (.s .n (.s (.s .n (.b (.b (.s .n (.s (.b .n ⟨ol 84 :: ol 84 :: uu 3 (oi :: uu 21 []), []⟩) .n)) ⟨ol 84 :: ol 84 :: uu 3 (oi :: uu 21 []), []⟩) ⟨uu 27 [], []⟩)) .n))))
noncomputable def fi46 : FI := mkFI Tryz.f46 0 [.ct (.sl 109), .ct (.sl 109)] [(false, [.ct .b])] (fun _ => (.s .n (.s .n (.s (.s .n (.b (.b (.s .n (.s (.b .n ⟨ol 109 :: ol 109 :: uu 3 (oi :: uu 21 []), []⟩) .n)) ⟨ol 109 :: ol 109 :: uu 3 (oi :: uu 21 []), []⟩) ⟨uu 27 [], []⟩)) .n))))
noncomputable def fi50 : FI := mkFI Tryz.f50 0 [.ct (.sl 123), .ct (.i .i64)] [(false, [.ct (.i .i64)])] (fun _ => (.s .n (.s (.s .n (.b (.b (.s .n (.s (.b .n ⟨ol 123 :: oi :: uu 3 (oi :: uu 110 []), []⟩) .n)) ⟨ol 123 :: oi :: uu 3 (oi :: uu 110 []), []⟩) ⟨ou :: oi :: uu 114 [], []⟩)) .n)))
noncomputable def fi51 : FI := mkFI Tryz.f51 0 [.ct (.sl 127), .ct (.i .i64)] [(false, [.ct (.i .i64)])] (fun _ => (.s .n (.s (.s .n (.b (.b (.s .n (.s (.b .n ⟨ol 127 :: oi :: uu 3 (oi :: uu 26 []), []⟩) .n)) ⟨ol 127 :: oi :: uu 3 (oi :: uu 26 []), []⟩) ⟨ou :: oi :: uu 30 [], []⟩)) .n)))
noncomputable def fi52 : FI := mkFI Tryz.f52 1 [.ag [.i .i64, .b, .s, .s, .sl 9, .sl 164, .sl 170, .sl 173, .sl 112, .b, .sl 177], .ct (.i .i64)] [(false, [.ct (.i .i64)])] (fun _ => (.s (.r [0, 0] none) .n))
noncomputable def fi87 : FI := mkFI Tryz.f87 1 [.ag [.i .i64, .s], .ct (.i .i64)] [(false, [.ct (.i .i64)])] (fun _ => (.s (.r [0, 0] none) .n))
noncomputable def fi57 : FI := mkFI Tryz.f57 9 [.ag [.i .i64, .b, .s, .s, .sl 9, .sl 164, .sl 170, .sl 173, .sl 112, .b, .sl 177]] [(true, [.ct (.i .i64), .ct .b, .ct .s, .ct .s, .new 9, .new 1032, .new 1123, .new 1145, .new 109, .ct .b, .new 1127])] (fun _ => (.s (.r [0, 1] none) (.s (.r [2] none) (.s .n (.s .n (.s .n (.s .n (.s (.r [0, 0, 3, 0, 0] none) (.s (.r [0, 0, 4, 0, 0] none) (.s (.r [0, 0, 5, 0, 0] none) (.s (.r [0, 0, 6, 0, 0] none) (.s (.r [0, 0, 7, 0, 0] none) (.s .n (.s (.r [0, 0, 8, 0, 0] none) .n))))))))))))))
noncomputable def fi91 : FI := mkFI Tryz.f91 3 [.ag [.i .i64, .s]] [(true, [.ct (.i .i64), .ct .s])] (fun _ => (.s (.r [0, 1] none) (.s (.r [2] none) .n)))
noncomputable def fi88 : FI := mkFI Tryz.f88 1 [.ag [.sl 84, .sl 84, .sl 109], .ct .s] [(false, [.ct .b])] (fun _ => (.s (.r [0, 0] none) (.s .n (.s (.r [] (some ⟨uu 4 (ob :: uu 14 []), .u :: []⟩)) .n))))
noncomputable def fi73 : FI := mkFI Tryz.f73 1 [.ag [.sl 84, .sl 84, .sl 109], .ct .s] [(false, [.ct (.i .i64)])] (fun _ => (.s (.r [0, 0] none) (.s (.s .n (.b (.b (.s (.s (.r [] (some ⟨ou :: os :: .one (.ptr 0 0) :: ou :: ou :: oi :: uu 10 (ob :: uu 11 []), .var 38 [.sl 84, .sl 84, .sl 109] :: []⟩)) .n) (.s (.b .n ⟨ou :: os :: .one (.ptr 0 0) :: ou :: ou :: oi :: uu 22 [], .var 38 [.sl 84, .sl 84, .sl 109] :: []⟩) .n)) ⟨ou :: os :: .one (.ptr 0 0) :: ou :: ou :: oi :: uu 22 [], .var 38 [.sl 84, .sl 84, .sl 109] :: []⟩) ⟨uu 28 [], .u :: []⟩)) .n)))
noncomputable def fi89 : FI := mkFI Tryz.f89 11 [.ct (.sl 123)] [(false, [.new 1123])] (fun _ => (.s .n (.s (.r [1, 0] none) (.s (.s .n (.b (.b (.s .n (.s (.b (.s (.r [0, 0, 0, 0, 3, 0] none) (.s (.r [0, 0, 4, 0, 0] none) (.s (.r [0, 0, 6, 0, 0] none) (.r [0, 0, 7, 8, 0] none)))) ⟨ol 123 :: ou :: ou :: .one (.own 1123 9) :: oi :: uu 25 [], vv 11 []⟩) .n)) ⟨ol 123 :: ou :: ou :: .one (.own 1123 2) :: oi :: uu 25 [], vv 11 []⟩) ⟨uu 3 (.one (.own 1123 10) :: uu 26 []), vv 11 []⟩)) .n))))
noncomputable def fi90 : FI := mkFI Tryz.f90 9 [.ct (.sl 127)] [(false, [.new 1127])] (fun _ => (.s .n (.s (.r [1, 0] none) (.s (.s .n (.b (.b (.s .n (.s (.b (.r [0, 0, 0, 0, 0, 0, 0, 0, 0, 0, 0, 3, 0, 5, 6, 0] none) ⟨ol 127 :: ou :: ou :: .one (.own 1127 7) :: oi :: uu 23 [], vv 9 []⟩) .n)) ⟨ol 127 :: ou :: ou :: .one (.own 1127 2) :: oi :: uu 23 [], vv 9 []⟩) ⟨uu 3 (.one (.own 1127 8) :: uu 24 []), vv 9 []⟩)) .n))))
noncomputable def fi92 : FI := mkFI Tryz.f92 1 [.ag [.sl 84, .sl 84, .sl 109], .ct .s] [(false, [.ct .b])] (fun _ => (.s (.r [0, 0] none) (.s .n (.s (.r [] (some ⟨uu 4 (ob :: uu 14 []), .u :: []⟩)) .n))))
noncomputable def fi76 : FI := mkFI Tryz.f76 2 [.ag [.sl 84, .sl 84, .sl 109], .ct .s] [(true, [.ct (.i .i64), .ct .b, .ct .s, .ct .s, .ct (.sl 9), .ct (.sl 32), .ct (.sl 123), .ct (.sl 145), .ct (.sl 109), .ct .b, .ct (.sl 127)]), (false, [.ct .b])] (fun _ => (.s (.r [0, 1, 0] none) .n))
noncomputable def fi93 : FI := mkFI Tryz.f93 3 [.ag [.i .i64, .b, .s, .s, .sl 9, .sl 32, .sl 123, .sl 145, .sl 109, .b, .sl 127], .ct .s] [(true, [.ct .s, .ct .s, .ct (.sl 123), .ct .s, .ct .s, .ct (.sl 127)]), (false, [.ct .b])] (fun _ => (.s (.r [0, 1, 2, 0] none) .n))
noncomputable def fi94 : FI := mkFI Tryz.f94 10 [.ct (.sl 123)] [(false, [.new 1123])] (fun _ => (.s .n (.s .n (.s (.s .n (.b (.b (.s .n (.s .n (.s (.b (.s (.r [0, 0, 0, 0] none) (.s (.r [0, 0, 1, 0, 0] none) (.s (.r [0, 0, 3, 0, 0] none) (.r [0, 0, 5, 6, 0] none)))) ⟨uu 3 (.one (.own 1123 7) :: ou :: ou :: ol 123 :: oi :: oi :: uu 17 []), vv 10 []⟩) .n))) ⟨uu 3 (.one (.own 1123 8) :: ou :: ou :: ol 123 :: oi :: oi :: uu 17 []), vv 10 []⟩) ⟨uu 3 (.one (.own 1123 9) :: uu 22 []), vv 10 []⟩)) .n))))
noncomputable def fi95 : FI := mkFI Tryz.f95 8 [.ct (.sl 127)] [(false, [.new 1127])] (fun _ => (.s .n (.s .n (.s (.s .n (.b (.b (.s .n (.s .n (.s (.b (.s (.r [0, 0, 0, 0] none) (.r [0, 0, 0, 0, 0, 1, 0, 3, 4, 0] none)) ⟨uu 3 (.one (.own 1127 5) :: ou :: ou :: ol 127 :: oi :: oi :: uu 14 []), vv 8 []⟩) .n))) ⟨uu 3 (.one (.own 1127 6) :: ou :: ou :: ol 127 :: oi :: oi :: uu 14 []), vv 8 []⟩) ⟨uu 3 (.one (.own 1127 7) :: uu 19 []), vv 8 []⟩)) .n))))
noncomputable def fi96 : FI := mkFI Tryz.f96 2 [.ag [.s, .s, .s, .s, .b, .i .i64, .s, .sl 121, .sl 9, .sl 127], .ag [.s, .s, .s, .s, .b, .i .i64, .s, .sl 121, .sl 9, .sl 127]] [(false, [.ct .b])] (fun _ => (.s (.r [0, 1, 0] none) .n))
noncomputable def fi97 : FI := mkFI Tryz.f97 2 [.ag [.s, .sl 160], .ag [.s, .sl 160]] [(false, [.ct .b])] (fun _ => (.s (.r [0, 1, 0] none) .n))
noncomputable def fi65 : FI := mkFI Tryz.f65 2 [.ag [.i .i64, .b, .s, .s, .sl 9, .sl 32, .sl 123, .sl 145, .sl 109, .b, .sl 127], .ag [.i .i64, .b, .s, .s, .sl 9, .sl 32, .sl 123, .sl 145, .sl 109, .b, .sl 127]] [(false, [.ct .b])] (fun _ => (.s (.r [0, 1, 0] none) .n))
noncomputable def fi98 : FI := mkFI Tryz.f98 2 [.ag [.i .i64, .s], .ag [.i .i64, .s]] [(false, [.ct .b])] (fun _ => (.s (.r [0, 1, 0] none) .n))
noncomputable def fi101 : FI := mkFI Tryz.f101 0 [.ct (.sl 121), .ct (.i .i64)] [(false, [.ct (.i .i64)])] (fun _ => (.s .n (.s (.s .n (.b (.b (.s .n (.s (.b .n ⟨ol 121 :: oi :: uu 3 (oi :: uu 44 []), []⟩) .n)) ⟨ol 121 :: oi :: uu 3 (oi :: uu 44 []), []⟩) ⟨ou :: oi :: uu 48 [], []⟩)) .n)))
noncomputable def fi31 : FI := mkFI Tryz.f31 0 [.ct (.sl 9), .ct (.i .i64)] [(false, [.ct (.i .i64)])] (fun _ => (.s .n (.s (.s .n (.b (.b (.s .n (.s (.b .n ⟨ol 9 :: oi :: uu 3 (oi :: uu 16 []), []⟩) .n)) ⟨ol 9 :: oi :: uu 3 (oi :: uu 16 []), []⟩) ⟨ou :: oi :: uu 20 [], []⟩)) .n)))
noncomputable def fi102 : FI := mkFI Tryz.f102 0 [.ct (.sl 160), .ct (.i .i64)] [(false, [.ct (.i .i64)])] (fun _ => (.s .n (.s (.s .n (.b (.b (.s .n (.s (.b .n ⟨ol 160 :: oi :: uu 3 (oi :: uu 58 []), []⟩) .n)) ⟨ol 160 :: oi :: uu 3 (oi :: uu 58 []), []⟩) ⟨ou :: oi :: uu 62 [], []⟩)) .n)))
noncomputable def fi103 : FI := mkFI Tryz.f103 0 [.ct (.sl 9), .ct (.i .i64)] [(false, [.ct (.i .i64)])] (fun _ => (.s .n (.s .n (.s .n (.s (.s .n (.b (.b (.s .n (.s (.b .n ⟨ol 9 :: oi :: uu 3 (oi :: uu 22 []), []⟩) .n)) ⟨ol 9 :: oi :: uu 3 (oi :: uu 22 []), []⟩) ⟨ou :: oi :: uu 26 [], []⟩)) .n)))))
noncomputable def fi104 : FI := mkFI Tryz.f104 0 [.ct (.sl 164), .ct (.i .i64)] [(false, [.ct (.i .i64)])] (fun _ => (.s .n (.s .n (.s .n (.s (.s .n (.b (.b (.s .n (.s (.b .n ⟨ol 164 :: oi :: uu 3 (oi :: uu 21 []), []⟩) .n)) ⟨ol 164 :: oi :: uu 3 (oi :: uu 21 []), []⟩) ⟨ou :: oi :: uu 25 [], []⟩)) .n)))))
noncomputable def fi105 : FI := mkFI Tryz.f105 0 [.ct (.sl 170), .ct (.i .i64)] [(false, [.ct (.i .i64)])] (fun _ => (.s .n (.s .n (.s .n (.s (.s .n (.b (.b (.s .n (.s (.b .n ⟨ol 170 :: oi :: uu 3 (oi :: uu 21 []), []⟩) .n)) ⟨ol 170 :: oi :: uu 3 (oi :: uu 21 []), []⟩) ⟨ou :: oi :: uu 25 [], []⟩)) .n)))))
noncomputable def fi106 : FI := mkFI Tryz.f106 0 [.ct (.sl 173), .ct (.i .i64)] [(false, [.ct (.i .i64)])] (fun _ => (.s .n (.s .n (.s .n (.s (.s .n (.b (.b (.s .n (.s (.b .n ⟨ol 173 :: oi :: uu 3 (oi :: uu 21 []), []⟩) .n)) ⟨ol 173 :: oi :: uu 3 (oi :: uu 21 []), []⟩) ⟨ou :: oi :: uu 25 [], []⟩)) .n)))))
noncomputable def fi107 : FI := mkFI Tryz.f107 0 [.ct (.sl 177), .ct (.i .i64)] [(false, [.ct (.i .i64)])] (fun _ => (.s .n (.s .n (.s .n (.s (.s .n (.b (.b (.s .n (.s (.b .n ⟨ol 177 :: oi :: uu 3 (oi :: uu 21 []), []⟩) .n)) ⟨ol 177 :: oi :: uu 3 (oi :: uu 21 []), []⟩) ⟨ou :: oi :: uu 25 [], []⟩)) .n)))))
noncomputable def fi109 : FI := mkFI Tryz.f109 4 [.ct (.sl 9)] [(false, [.new 9])] (fun _ => (.s .n (.s (.r [0, 0, 0, 0] none) (.s (.s .n (.b (.b (.s .n (.s (.b .n ⟨ol 9 :: ou :: ou :: .one (.own 9 2) :: oi :: uu 17 [], vv 4 []⟩) .n)) ⟨ol 9 :: ou :: ou :: .one (.own 9 1) :: oi :: uu 17 [], vv 4 []⟩) ⟨uu 3 (.one (.own 9 3) :: uu 18 []), vv 4 []⟩)) .n))))
noncomputable def fi110 : FI := mkFI Tryz.f110 7 [.ct (.sl 164)] [(false, [.new 1032])] (fun _ => (.s .n (.s (.r [0, 0, 1, 0] none) (.s (.s .n (.b (.b (.s .n (.s (.b (.r [0, 0, 0, 0, 0, 0, 3, 0, 0] none) ⟨ol 164 :: ou :: ou :: .one (.own 1032 5) :: oi :: uu 18 [], vv 7 []⟩) .n)) ⟨ol 164 :: ou :: ou :: .one (.own 1032 2) :: oi :: uu 18 [], vv 7 []⟩) ⟨uu 3 (.one (.own 1032 6) :: uu 19 []), vv 7 []⟩)) .n))))
noncomputable def fi111 : FI := mkFI Tryz.f111 8 [.ct (.sl 170)] [(false, [.new 1123])] (fun _ => (.s .n (.s (.r [0, 0, 1, 0] none) (.s (.s .n (.b (.b (.s .n (.s (.b (.r [0, 0, 0, 0, 0, 0, 3, 0, 0] none) ⟨ol 170 :: ou :: ou :: .one (.own 1123 6) :: oi :: uu 18 [], vv 8 []⟩) .n)) ⟨ol 170 :: ou :: ou :: .one (.own 1123 2) :: oi :: uu 18 [], vv 8 []⟩) ⟨uu 3 (.one (.own 1123 7) :: uu 19 []), vv 8 []⟩)) .n))))
noncomputable def fi112 : FI := mkFI Tryz.f112 6 [.ct (.sl 173)] [(false, [.new 1145])] (fun _ => (.s .n (.s (.r [0, 0, 1, 0] none) (.s (.s .n (.b (.b (.s .n (.s (.b (.r [0, 0, 0, 0, 0, 0, 3, 0, 0] none) ⟨ol 173 :: ou :: ou :: .one (.own 1145 4) :: oi :: uu 18 [], vv 6 []⟩) .n)) ⟨ol 173 :: ou :: ou :: .one (.own 1145 2) :: oi :: uu 18 [], vv 6 []⟩) ⟨uu 3 (.one (.own 1145 5) :: uu 19 []), vv 6 []⟩)) .n))))
noncomputable def fi113 : FI := mkFI Tryz.f113 6 [.ct (.sl 177)] [(false, [.new 1127])] (fun _ => (.s .n (.s (.r [0, 0, 1, 0] none) (.s (.s .n (.b (.b (.s .n (.s (.b (.r [0, 0, 0, 0, 0, 0, 3, 0, 0] none) ⟨ol 177 :: ou :: ou :: .one (.own 1127 4) :: oi :: uu 18 [], vv 6 []⟩) .n)) ⟨ol 177 :: ou :: ou :: .one (.own 1127 2) :: oi :: uu 18 [], vv 6 []⟩) ⟨uu 3 (.one (.own 1127 5) :: uu 19 []), vv 6 []⟩)) .n))))
noncomputable def fi129 : FI := mkFI Tryz.f129 1 [.ag [.sl 84, .sl 84, .sl 109], .ct .s] [(false, [.ct (.i .i64)])] (fun _ => (.s (.r [0, 0] none) .n))
noncomputable def fi130 : FI := mkFI Tryz.f130 16 [.ag [.i .i64, .s, .sl 121, .sl 9]] [(true, [.ct (.i .i64), .ct .s, .new 1121, .new 9])] (fun _ => (.s (.r [0, 1] none) (.s (.r [0, 0, 0, 0, 2, 0, 0, 3, 0, 4, 0] none) (.s (.s .n (.b (.b (.s .n (.s (.b (.r [0, 0, 0, 0, 0, 0, 0, 6, 9, 10, 0, 0] none) ⟨ou :: .one (.ptr 0 0) :: .one (.ptr 1 0) :: .one (.ptr 4 0) :: oi :: uu 28 [], .var 121 [.i .i64, .s, .sl 121, .sl 9] :: .var 121 [.i .i64, .s, .nil, .nil] :: .u :: .u :: .var 121 [.i .i64, .s, .own 1121 11, .own 9 12] :: vv 11 []⟩) .n)) ⟨ou :: .one (.ptr 0 0) :: .one (.ptr 1 0) :: .one (.ptr 4 0) :: oi :: uu 28 [], .var 121 [.i .i64, .s, .sl 121, .sl 9] :: .var 121 [.i .i64, .s, .nil, .nil] :: .u :: .u :: .var 121 [.i .i64, .s, .own 1121 13, .own 9 5] :: vv 11 []⟩) ⟨ou :: ou :: .one (.ptr 1 0) :: .one (.ptr 4 0) :: uu 29 [], .u :: .var 121 [.i .i64, .s, .nil, .nil] :: .u :: .u :: .var 121 [.i .i64, .s, .own 1121 14, .own 9 15] :: vv 11 []⟩)) .n))))
noncomputable def fi131 : FI := mkFI Tryz.f131 9 [.ct (.sl 160)] [(false, [.new 1160])] (fun _ => (.s .n (.s (.r [1, 0] none) (.s (.s .n (.b (.b (.s .n (.s (.b (.r [0, 0, 0, 0, 0, 0, 0, 0, 0, 0, 0, 3, 0, 5, 6, 0] none) ⟨ol 160 :: ou :: ou :: .one (.own 1160 7) :: oi :: uu 23 [], vv 9 []⟩) .n)) ⟨ol 160 :: ou :: ou :: .one (.own 1160 2) :: oi :: uu 23 [], vv 9 []⟩) ⟨uu 3 (.one (.own 1160 8) :: uu 24 []), vv 9 []⟩)) .n))))
noncomputable def fi132 : FI := mkFI Tryz.f132 2 [.ag [.sl 84, .sl 84, .sl 109], .ct .s] [(false, [.ct (.i .i64)])] (fun _ => (.s (.r [0, 0] none) (.s (.r [0, 0, 0, 0, 0, 0, 1, 0, 0] none) (.s (.b .n ⟨uu 20 [], .u :: .u :: []⟩) .n))))
noncomputable def fi119 : FI := mkFI Tryz.f119 1 [.ag [.sl 84, .sl 84, .sl 109], .ct .s] [(false, [.ct (.i .i64)])] (fun _ => (.s (.r [0, 0] none) .n))
noncomputable def fi133 : FI := mkFI Tryz.f133 1 [.ct (.sl 32), .fn] [(false, [.ct (.i .i64)])] (fun _ => (.s .n (.s (.s .n (.b (.b (.s .n (.s .n (.s (.b .n ⟨ol 32 :: .one (.fn 134 [0]) :: uu 5 (oi :: oi :: uu 10 []), .var 9 [.s] :: []⟩) .n))) ⟨ol 32 :: .one (.fn 134 [0]) :: uu 5 (oi :: oi :: uu 10 []), .var 9 [.s] :: []⟩) ⟨uu 19 [], .var 9 [.s] :: []⟩)) .n)))
noncomputable def fi135 : FI := mkFI Tryz.f135 16 [.ag [.i .i64, .s, .sl 121, .sl 9]] [(true, [.ct (.i .i64), .ct .s, .new 1121, .new 9])] (fun _ => (.s (.r [0, 1] none) (.s (.r [0, 0, 0, 0, 0, 0, 2, 0, 3, 0] none) (.s (.s .n (.b (.b (.s .n (.s .n (.s (.b (.s (.r [0, 0, 5, 0] none) (.r [0, 0, 0, 6, 9, 10, 0, 0] none)) ⟨ou :: ou :: .one (.ptr 1 0) :: .one (.ptr 3 0) :: uu 11 (ol 121 :: oi :: oi :: uu 12 []), .u :: .var 121 [.i .i64, .s, .nil, .nil] :: .u :: .var 121 [.i .i64, .s, .own 1121 11, .own 9 12] :: vv 12 []⟩) .n))) ⟨ou :: ou :: .one (.ptr 1 0) :: .one (.ptr 3 0) :: uu 11 (ol 121 :: oi :: oi :: uu 12 []), .u :: .var 121 [.i .i64, .s, .nil, .nil] :: .u :: .var 121 [.i .i64, .s, .own 1121 13, .own 9 4] :: vv 12 []⟩) ⟨ou :: ou :: .one (.ptr 1 0) :: .one (.ptr 3 0) :: uu 26 [], .u :: .var 121 [.i .i64, .s, .nil, .nil] :: .u :: .var 121 [.i .i64, .s, .own 1121 14, .own 9 15] :: vv 12 []⟩)) .n))))
noncomputable def fi136 : FI := mkFI Tryz.f136 8 [.ct (.sl 160)] [(false, [.new 1160])] (fun _ => (.s .n (.s .n (.s (.s .n (.b (.b (.s .n (.s .n (.s (.b (.s (.r [0, 0, 0, 0] none) (.r [0, 0, 0, 0, 0, 1, 0, 3, 4, 0] none)) ⟨uu 3 (.one (.own 1160 5) :: ou :: ou :: ol 160 :: oi :: oi :: uu 14 []), vv 8 []⟩) .n))) ⟨uu 3 (.one (.own 1160 6) :: ou :: ou :: ol 160 :: oi :: oi :: uu 14 []), vv 8 []⟩) ⟨uu 3 (.one (.own 1160 7) :: uu 19 []), vv 8 []⟩)) .n))))
noncomputable def fi137 : FI := mkFI Tryz.f137 2 [.ag [.i .i64, .s, .sl 121, .sl 9], .ag [.i .i64, .s, .sl 121, .sl 9]] [(false, [.ct .b])] (fun _ => (.s (.r [0, 1, 0] none) .n))
noncomputable def fi138 : FI := mkFI Tryz.f138 0 [.ct (.sl 160), .ct (.sl 160)] [(false, [.ct .b])] (fun _ => (.s .n (.s .n (.s (.s .n (.b (.b (.s .n (.s (.b .n ⟨ol 160 :: ol 160 :: uu 3 (oi :: uu 21 []), []⟩) .n)) ⟨ol 160 :: ol 160 :: uu 3 (oi :: uu 21 []), []⟩) ⟨uu 27 [], []⟩)) .n))))
noncomputable def fi29 : FI := mkFI Tryz.f29 0 [.ct (.sl 9), .ct (.sl 9)] [(false, [.ct .b])] (fun _ => (.s .n (.s .n (.s (.s .n (.b (.b (.s .n (.s (.b .n ⟨ol 9 :: ol 9 :: uu 3 (oi :: uu 20 []), []⟩) .n)) ⟨ol 9 :: ol 9 :: uu 3 (oi :: uu 20 []), []⟩) ⟨uu 26 [], []⟩)) .n))))
noncomputable def fi117 : FI := mkFI Tryz.f117 0 [.ct (.sl 32), .ct (.sl 32)] [(false, [.ct .b])] (fun _ => (.s .n (.s .n (.s (.s .n (.b (.b (.s .n (.s (.b .n ⟨ol 32 :: ol 32 :: uu 3 (oi :: uu 21 []), []⟩) .n)) ⟨ol 32 :: ol 32 :: uu 3 (oi :: uu 21 []), []⟩) ⟨uu 27 [], []⟩)) .n))))
noncomputable def fi118 : FI := mkFI Tryz.f118 0 [.ct (.sl 145), .ct (.sl 145)] [(false, [.ct .b])] (fun _ => (.s .n (.s .n (.s (.s .n (.b (.b (.s .n (.s (.b .n ⟨ol 145 :: ol 145 :: uu 3 (oi :: uu 21 []), []⟩) .n)) ⟨ol 145 :: ol 145 :: uu 3 (oi :: uu 21 []), []⟩) ⟨uu 27 [], []⟩)) .n))))
noncomputable def fi139 : FI := mkFI Tryz.f139 1 [.ag [.s, .s, .sl 170, .s, .s, .sl 177], .ct (.i .i64)] [(false, [.ct (.i .i64)])] (fun _ => (.s (.r [0, 0] none) .n))
noncomputable def fi140 : FI := mkFI Tryz.f140 1 [.ag [.s, .s, .s, .s, .b, .i .i64, .s, .sl 168, .sl 9, .sl 177], .ct (.i .i64)] [(false, [.ct (.i .i64)])] (fun _ => (.s (.r [0, 0] none) .n))
noncomputable def fi141 : FI := mkFI Tryz.f141 1 [.ag [.s, .s, .sl 177], .ct (.i .i64)] [(false, [.ct (.i .i64)])] (fun _ => (.s (.r [0, 0] none) .n))
noncomputable def fi142 : FI := mkFI Tryz.f142 1 [.ag [.s, .sl 221], .ct (.i .i64)] [(false, [.ct (.i .i64)])] (fun _ => (.s (.r [0, 0] none) .n))
noncomputable def fi143 : FI := mkFI Tryz.f143 5 [.ag [.s, .s, .sl 170, .s, .s, .sl 177]] [(true, [.ct .s, .ct .s, .new 1123, .ct .s, .ct .s, .new 1127])] (fun _ => (.s (.r [0, 1] none) (.s (.r [2] none) (.s .n (.s .n (.s (.r [0, 0, 3, 0, 0] none) (.s .n (.s (.r [0, 0, 4, 0, 0] none) .n))))))))
noncomputable def fi144 : FI := mkFI Tryz.f144 6 [.ag [.s, .s, .s, .s, .b, .i .i64, .s, .sl 168, .sl 9, .sl 177]] [(true, [.ct .s, .ct .s, .ct .s, .ct .s, .ct .b, .ct (.i .i64), .ct .s, .new 1121, .new 9, .new 1127])] (fun _ => (.s (.r [0, 1] none) (.s (.r [2] none) (.s .n (.s .n (.s .n (.s .n (.s (.r [0, 0, 3, 0, 0] none) (.s (.r [0, 0, 5, 0, 0] none) .n)))))))))
noncomputable def fi145 : FI := mkFI Tryz.f145 4 [.ag [.s, .s, .sl 177]] [(true, [.ct .s, .ct .s, .new 1127])] (fun _ => (.s (.r [0, 1] none) (.s (.r [2] none) (.s .n (.s .n (.s (.r [0, 0, 3, 0, 0] none) .n))))))
noncomputable def fi146 : FI := mkFI Tryz.f146 4 [.ag [.s, .sl 221]] [(true, [.ct .s, .new 1160])] (fun _ => (.s (.r [0, 1] none) (.s (.r [2] none) (.s .n (.s (.r [0, 0, 3, 0, 0] none) .n)))))
noncomputable def fi165 : FI := mkFI Tryz.f165 0 [.ct .s] [(false, [.ct .b])] (fun _ => (.s .n (.s (.r [] (some ⟨ou :: ou :: ob :: uu 18 [], []⟩)) .n)))
noncomputable def fi166 : FI := mkFI Tryz.f166 0 [.ct .s] [(false, [.ct .b])] (fun _ => (.s .n (.s (.s .n (.b (.s (.s .n (.c .n (.s .n (.c .n (.s .n (.c .n (.s .n (.c .n .n (some ⟨uu 4 (ob :: uu 5 []), []⟩))) (some ⟨uu 4 (ob :: uu 5 []), []⟩))) (some ⟨uu 4 (ob :: uu 5 []), []⟩))) (some ⟨uu 4 (ob :: uu 5 []), []⟩))) .n) ⟨uu 10 [], []⟩)) .n)))
noncomputable def fi148 : FI := mkFI Tryz.f148 1 [.ct (.sl 84), .ct .s] [(false, [.ct (.i .i64)])] (fun _ => (.s (.r [0, 0] none) .n))
noncomputable def fi134 : FI := mkFI Tryz.f134 2 [.ag [.s, .s, .sl 123, .s, .s, .sl 127], .ptr] [(false, [.ct .b])] (fun _ => (.s (.r [1, 0] none) .n))
noncomputable def fi114 : FI := { mkFI Tryz.f114 4 [.ct (.sl 9)] [(false, [.new 9])] (fun _ => .n) with prim := some (primC 9) }
noncomputable def ac114 : AC := ann (clCond (Tryz.f114.body.getD .skip)) .n
noncomputable def ar114 : AC := ann (clRest (Tryz.f114.body.getD .skip)) (.s (.r [0, 0, 2, 0] none) .n)
theorem cl114 : ∀ b l, (b = true → l = []) → l.length < LIM → clRun (fun t => look t tyL) fi114 9 ac114 ar114 b l = .ret [.sl l] := by
  intro b l h1 h2
  cases b with
  | true =>
    obtain rfl := h1 rfl
    kernel_rfl
  | false =>
    refine (show clRun (fun t => look t tyL) fi114 9 ac114 ar114 false l = (if ([] : List (List DC)).length + l.length < LIM then Out.ret [.sl ([] ++ l)] else .fail) from by kernel_rfl).trans ?_
    rw [if_pos (by simpa using h2), List.nil_append]
noncomputable def fi167 : FI := mkFI Tryz.f167 0 [.ct (.sl 121), .ct (.sl 121)] [(false, [.ct .b])] (fun _ => (.s .n (.s .n (.s (.s .n (.b (.b (.s .n (.s (.b .n ⟨ol 121 :: ol 121 :: uu 3 (oi :: uu 21 []), []⟩) .n)) ⟨ol 121 :: ol 121 :: uu 3 (oi :: uu 21 []), []⟩) ⟨uu 27 [], []⟩)) .n))))
noncomputable def fi168 : FI := mkFI Tryz.f168 2 [.ag [.s, .i .i64, .s, .sl 121, .sl 9], .ag [.s, .i .i64, .s, .sl 121, .sl 9]] [(false, [.ct .b])] (fun _ => (.s (.r [0, 1, 0] none) .n))
noncomputable def fi147 : FI := mkFI Tryz.f147 2 [.ag [.s, .s, .sl 127], .ag [.s, .s, .sl 127]] [(false, [.ct .b])] (fun _ => (.s (.r [0, 1, 0] none) .n))
noncomputable def fi169 : FI := mkFI Tryz.f169 1 [.ag [.s, .s], .ct (.i .i64)] [(false, [.ct (.i .i64)])] (fun _ => (.s (.r [0, 0] none) .n))
noncomputable def fi170 : FI := mkFI Tryz.f170 1 [.ag [.i .i64, .s, .sl 168, .sl 9], .ct (.i .i64)] [(false, [.ct (.i .i64)])] (fun _ => (.s (.r [0, 0] none) .n))
noncomputable def fi171 : FI := mkFI Tryz.f171 0 [.ct (.sl 221), .ct (.i .i64)] [(false, [.ct (.i .i64)])] (fun _ => (.s .n (.s .n (.s .n (.s (.s .n (.b (.b (.s .n (.s (.b .n ⟨ol 221 :: oi :: uu 3 (oi :: uu 21 []), []⟩) .n)) ⟨ol 221 :: oi :: uu 3 (oi :: uu 21 []), []⟩) ⟨ou :: oi :: uu 25 [], []⟩)) .n)))))
noncomputable def fi172 : FI := mkFI Tryz.f172 3 [.ag [.s, .s]] [(true, [.ct .s, .ct .s])] (fun _ => (.s (.r [0, 1] none) (.s (.r [2] none) .n)))
noncomputable def fi173 : FI := mkFI Tryz.f173 5 [.ag [.i .i64, .s, .sl 168, .sl 9]] [(true, [.ct (.i .i64), .ct .s, .new 1121, .new 9])] (fun _ => (.s (.r [0, 1] none) (.s (.r [2] none) (.s .n (.s .n (.s (.r [0, 0, 3, 0, 0] none) (.s (.r [0, 0, 4, 0, 0] none) .n)))))))
noncomputable def fi174 : FI := mkFI Tryz.f174 7 [.ct (.sl 221)] [(false, [.new 1160])] (fun _ => (.s .n (.s (.r [0, 0, 1, 0] none) (.s (.s .n (.b (.b (.s .n (.s (.b (.r [0, 0, 0, 0, 0, 0, 3, 0, 0] none) ⟨ol 221 :: ou :: ou :: .one (.own 1160 5) :: oi :: uu 18 [], vv 7 []⟩) .n)) ⟨ol 221 :: ou :: ou :: .one (.own 1160 2) :: oi :: uu 18 [], vv 7 []⟩) ⟨uu 3 (.one (.own 1160 6) :: uu 19 []), vv 7 []⟩)) .n))))
noncomputable def fi62 : FI := mkFI Tryz.f62 1 [.ct (.sl 84), .fn] [(false, [.ct (.i .i64)])] (fun _ => (.s .n (.s (.s .n (.b (.b (.s .n (.s .n (.s (.b .n ⟨ol 84 :: .one (.fn 175 [0]) :: uu 5 (oi :: oi :: uu 10 []), .var 9 [.s] :: []⟩) .n))) ⟨ol 84 :: .one (.fn 175 [0]) :: uu 5 (oi :: oi :: uu 10 []), .var 9 [.s] :: []⟩) ⟨uu 19 [], .var 9 [.s] :: []⟩)) .n)))
noncomputable def fi185 : FI := mkFI Tryz.f185 0 [.ct (.sl 168), .ct (.i .i64)] [(false, [.ct (.i .i64)])] (fun _ => (.s .n (.s .n (.s .n (.s (.s .n (.b (.b (.s .n (.s (.b .n ⟨ol 168 :: oi :: uu 3 (oi :: uu 21 []), []⟩) .n)) ⟨ol 168 :: oi :: uu 3 (oi :: uu 21 []), []⟩) ⟨ou :: oi :: uu 25 [], []⟩)) .n)))))
noncomputable def fi186 : FI := mkFI Tryz.f186 1 [.ag [.s, .i .i64, .s, .sl 168, .sl 9], .ct (.i .i64)] [(false, [.ct (.i .i64)])] (fun _ => (.s (.r [0, 0] none) .n))
noncomputable def fi187 : FI := mkFI Tryz.f187 7 [.ct (.sl 168)] [(false, [.new 1121])] (fun _ => (.s .n (.s (.r [0, 0, 1, 0] none) (.s (.s .n (.b (.b (.s .n (.s (.b (.r [0, 0, 0, 0, 0, 0, 3, 0, 0] none) ⟨ol 168 :: ou :: ou :: .one (.own 1121 5) :: oi :: uu 18 [], vv 7 []⟩) .n)) ⟨ol 168 :: ou :: ou :: .one (.own 1121 2) :: oi :: uu 18 [], vv 7 []⟩) ⟨uu 3 (.one (.own 1121 6) :: uu 19 []), vv 7 []⟩)) .n))))
noncomputable def fi188 : FI := mkFI Tryz.f188 5 [.ag [.s, .i .i64, .s, .sl 168, .sl 9]] [(true, [.ct .s, .ct (.i .i64), .ct .s, .new 1121, .new 9])] (fun _ => (.s (.r [0, 1] none) (.s (.r [2] none) (.s .n (.s (.r [0, 0, 3, 0, 0] none) .n)))))
noncomputable def fi175 : FI := mkFI Tryz.f175 2 [.ag [.i .i64, .b, .s, .s, .sl 9, .sl 32, .sl 123, .sl 145, .sl 109, .b, .sl 127], .ptr] [(false, [.ct .b])] (fun _ => (.s (.r [1, 0] none) .n))
noncomputable def fi23 : FI := { mkFI Tryz.f23 0 [] [] (fun _ => .n) with mark := some (mkI mT mTab 23 84) }
noncomputable def fi30 : FI := { mkFI Tryz.f30 0 [] [] (fun _ => .n) with mark := some (mkI mT mTab 30 9) }
noncomputable def fi47 : FI := { mkFI Tryz.f47 0 [] [] (fun _ => .n) with mark := some (mkI mT mTab 47 109) }
noncomputable def fi48 : FI := { mkFI Tryz.f48 0 [] [] (fun _ => .n) with mark := some (mkI mT mTab 48 123) }
noncomputable def fi49 : FI := { mkFI Tryz.f49 0 [] [] (fun _ => .n) with mark := some (mkI mT mTab 49 127) }
noncomputable def fi68 : FI := { mkFI Tryz.f68 0 [] [] (fun _ => .n) with mark := some (mkI mT mTab 68 32) }
noncomputable def fi69 : FI := { mkFI Tryz.f69 0 [] [] (fun _ => .n) with mark := some (mkI mT mTab 69 145) }
noncomputable def fi99 : FI := { mkFI Tryz.f99 0 [] [] (fun _ => .n) with mark := some (mkI mT mTab 99 121) }
noncomputable def fi100 : FI := { mkFI Tryz.f100 0 [] [] (fun _ => .n) with mark := some (mkI mT mTab 100 160) }
noncomputable def fi14 : FI := { mkFI Tryz.f14 0 [] [] (fun _ => .n) with mark := some (mkAI mT mTab 3 [((0, 84), 23), ((1, 84), 23), ((2, 109), 47)]) }
noncomputable def fi15 : FI := { mkFI Tryz.f15 0 [] [] (fun _ => .n) with mark := some (mkAI mT mTab 6 [((2, 123), 48), ((5, 127), 49)]) }
noncomputable def fnL : List (Nat × FI) := [(3, fi3), (8, fi8), (10, fi10), (9, fi9), (11, fi11), (12, fi12), (13, fi13), (16, fi16), (17, fi17), (37, fi37), (19, fi19), (40, fi40), (38, fi38), (39, fi39), (41, fi41), (42, fi42), (43, fi43), (44, fi44), (45, fi45), (21, fi21), (46, fi46), (50, fi50), (51, fi51), (52, fi52), (87, fi87), (57, fi57), (91, fi91), (88, fi88), (73, fi73), (89, fi89), (90, fi90), (92, fi92), (76, fi76), (93, fi93), (94, fi94), (95, fi95), (96, fi96), (97, fi97), (65, fi65), (98, fi98), (67, fi67), (101, fi101), (31, fi31), (102, fi102), (103, fi103), (104, fi104), (105, fi105), (106, fi106), (107, fi107), (109, fi109), (110, fi110), (111, fi111), (112, fi112), (113, fi113), (129, fi129), (130, fi130), (131, fi131), (132, fi132), (119, fi119), (133, fi133), (135, fi135), (136, fi136), (137, fi137), (138, fi138), (29, fi29), (117, fi117), (118, fi118), (139, fi139), (140, fi140), (141, fi141), (142, fi142), (143, fi143), (144, fi144), (145, fi145), (146, fi146), (165, fi165), (166, fi166), (148, fi148), (134, fi134), (114, fi114), (167, fi167), (168, fi168), (147, fi147), (169, fi169), (170, fi170), (171, fi171), (172, fi172), (173, fi173), (174, fi174), (62, fi62), (185, fi185), (186, fi186), (187, fi187), (188, fi188), (175, fi175), (23, fi23), (30, fi30), (47, fi47), (48, fi48), (49, fi49), (68, fi68), (69, fi69), (99, fi99), (100, fi100), (14, fi14), (15, fi15)]
noncomputable def cfg : Cfg := ⟨fun t => look t tyL, fun f => look f fnL⟩
theorem fns : ∀ x ∈ fnL, FnOk Tryz.prog Glob.none cfg.ty x.1 x.2 :=
  all_cons (mkFI_ok Tryz.func3 (by kernel_rfl)) <|
  all_cons (mkFI_ok Tryz.func8 (by kernel_rfl)) <|
  all_cons (mkFI_ok Tryz.func10 (by kernel_rfl)) <|
  all_cons (mkFI_ok Tryz.func9 (by kernel_rfl)) <|
  all_cons (mkFI_ok Tryz.func11 (by kernel_rfl)) <|
  all_cons (mkFI_ok Tryz.func12 (by kernel_rfl)) <|
  all_cons (mkFI_ok Tryz.func13 (by kernel_rfl)) <|
  all_cons (mkFI_ok Tryz.func16 (by kernel_rfl)) <|
  all_cons (mkFI_ok Tryz.func17 (by kernel_rfl)) <|
  all_cons (mkFI_ok Tryz.func37 (by kernel_rfl)) <|
  all_cons (mkFI_ok Tryz.func19 (by kernel_rfl)) <|
  all_cons (mkFI_ok Tryz.func40 (by kernel_rfl)) <|
  all_cons (mkFI_ok Tryz.func38 (by kernel_rfl)) <|
  all_cons (mkFI_ok Tryz.func39 (by kernel_rfl)) <|
  all_cons (mkFI_ok Tryz.func41 (by kernel_rfl)) <|
  all_cons (mkFI_ok Tryz.func42 (by kernel_rfl)) <|
  all_cons (mkFI_ok Tryz.func43 (by kernel_rfl)) <|
  all_cons (mkFI_ok Tryz.func44 (by kernel_rfl)) <|
  all_cons (mkFI_ok Tryz.func45 (by kernel_rfl)) <|
  all_cons (mkFI_ok Tryz.func21 (by kernel_rfl)) <|
  all_cons (mkFI_ok Tryz.func46 (by kernel_rfl)) <|
  all_cons (mkFI_ok Tryz.func50 (by kernel_rfl)) <|
  all_cons (mkFI_ok Tryz.func51 (by kernel_rfl)) <|
  all_cons (mkFI_ok Tryz.func52 (by kernel_rfl)) <|
  all_cons (mkFI_ok Tryz.func87 (by kernel_rfl)) <|
  all_cons (mkFI_ok Tryz.func57 (by kernel_rfl)) <|
  all_cons (mkFI_ok Tryz.func91 (by kernel_rfl)) <|
  all_cons (mkFI_ok Tryz.func88 (by kernel_rfl)) <|
  all_cons (mkFI_ok Tryz.func73 (by kernel_rfl)) <|
  all_cons (mkFI_ok Tryz.func89 (by kernel_rfl)) <|
  all_cons (mkFI_ok Tryz.func90 (by kernel_rfl)) <|
  all_cons (mkFI_ok Tryz.func92 (by kernel_rfl)) <|
  all_cons (mkFI_ok Tryz.func76 (by kernel_rfl)) <|
  all_cons (mkFI_ok Tryz.func93 (by kernel_rfl)) <|
  all_cons (mkFI_ok Tryz.func94 (by kernel_rfl)) <|
  all_cons (mkFI_ok Tryz.func95 (by kernel_rfl)) <|
  all_cons (mkFI_ok Tryz.func96 (by kernel_rfl)) <|
  all_cons (mkFI_ok Tryz.func97 (by kernel_rfl)) <|
  all_cons (mkFI_ok Tryz.func65 (by kernel_rfl)) <|
  all_cons (mkFI_ok Tryz.func98 (by kernel_rfl)) <|
  all_cons (mkFI_ok Tryz.func67 (by kernel_rfl)) <|
  all_cons (mkFI_ok Tryz.func101 (by kernel_rfl)) <|
  all_cons (mkFI_ok Tryz.func31 (by kernel_rfl)) <|
  all_cons (mkFI_ok Tryz.func102 (by kernel_rfl)) <|
  all_cons (mkFI_ok Tryz.func103 (by kernel_rfl)) <|
  all_cons (mkFI_ok Tryz.func104 (by kernel_rfl)) <|
  all_cons (mkFI_ok Tryz.func105 (by kernel_rfl)) <|
  all_cons (mkFI_ok Tryz.func106 (by kernel_rfl)) <|
  all_cons (mkFI_ok Tryz.func107 (by kernel_rfl)) <|
  all_cons (mkFI_ok Tryz.func109 (by kernel_rfl)) <|
  all_cons (mkFI_ok Tryz.func110 (by kernel_rfl)) <|
  all_cons (mkFI_ok Tryz.func111 (by kernel_rfl)) <|
  all_cons (mkFI_ok Tryz.func112 (by kernel_rfl)) <|
  all_cons (mkFI_ok Tryz.func113 (by kernel_rfl)) <|
  all_cons (mkFI_ok Tryz.func129 (by kernel_rfl)) <|
  all_cons (mkFI_ok Tryz.func130 (by kernel_rfl)) <|
  all_cons (mkFI_ok Tryz.func131 (by kernel_rfl)) <|
  all_cons (mkFI_ok Tryz.func132 (by kernel_rfl)) <|
  all_cons (mkFI_ok Tryz.func119 (by kernel_rfl)) <|
  all_cons (mkFI_ok Tryz.func133 (by kernel_rfl)) <|
  all_cons (mkFI_ok Tryz.func135 (by kernel_rfl)) <|
  all_cons (mkFI_ok Tryz.func136 (by kernel_rfl)) <|
  all_cons (mkFI_ok Tryz.func137 (by kernel_rfl)) <|
  all_cons (mkFI_ok Tryz.func138 (by kernel_rfl)) <|
  all_cons (mkFI_ok Tryz.func29 (by kernel_rfl)) <|
  all_cons (mkFI_ok Tryz.func117 (by kernel_rfl)) <|
  all_cons (mkFI_ok Tryz.func118 (by kernel_rfl)) <|
  all_cons (mkFI_ok Tryz.func139 (by kernel_rfl)) <|
  all_cons (mkFI_ok Tryz.func140 (by kernel_rfl)) <|
  all_cons (mkFI_ok Tryz.func141 (by kernel_rfl)) <|
  all_cons (mkFI_ok Tryz.func142 (by kernel_rfl)) <|
  all_cons (mkFI_ok Tryz.func143 (by kernel_rfl)) <|
  all_cons (mkFI_ok Tryz.func144 (by kernel_rfl)) <|
  all_cons (mkFI_ok Tryz.func145 (by kernel_rfl)) <|
  all_cons (mkFI_ok Tryz.func146 (by kernel_rfl)) <|
  all_cons (mkFI_ok Tryz.func165 (by kernel_rfl)) <|
  all_cons (mkFI_ok Tryz.func166 (by kernel_rfl)) <|
  all_cons (mkFI_ok Tryz.func148 (by kernel_rfl)) <|
  all_cons (mkFI_ok Tryz.func134 (by kernel_rfl)) <|
  all_cons (prim_clone (e := 9) (ac := ac114) (ar := ar114) (tyB_ok tys).1 (by kernel_rfl) Tryz.func114 (by kernel_rfl) (by kernel_rfl) rfl rfl ⟨_, _, _, _, _, _, _, rfl, ⟨rfl, rfl, rfl⟩, ⟨rfl, rfl, rfl⟩, ⟨rfl, rfl, rfl⟩, Tryz.underlying55⟩ rfl rfl (by decide +kernel) cl114) <|
  all_cons (mkFI_ok Tryz.func167 (by kernel_rfl)) <|
  all_cons (mkFI_ok Tryz.func168 (by kernel_rfl)) <|
  all_cons (mkFI_ok Tryz.func147 (by kernel_rfl)) <|
  all_cons (mkFI_ok Tryz.func169 (by kernel_rfl)) <|
  all_cons (mkFI_ok Tryz.func170 (by kernel_rfl)) <|
  all_cons (mkFI_ok Tryz.func171 (by kernel_rfl)) <|
  all_cons (mkFI_ok Tryz.func172 (by kernel_rfl)) <|
  all_cons (mkFI_ok Tryz.func173 (by kernel_rfl)) <|
  all_cons (mkFI_ok Tryz.func174 (by kernel_rfl)) <|
  all_cons (mkFI_ok Tryz.func62 (by kernel_rfl)) <|
  all_cons (mkFI_ok Tryz.func185 (by kernel_rfl)) <|
  all_cons (mkFI_ok Tryz.func186 (by kernel_rfl)) <|
  all_cons (mkFI_ok Tryz.func187 (by kernel_rfl)) <|
  all_cons (mkFI_ok Tryz.func188 (by kernel_rfl)) <|
  all_cons (mkFI_ok Tryz.func175 (by kernel_rfl)) <|
  all_cons (mark_fn (mkFI_ok Tryz.func23 (by kernel_rfl)) rfl (mkI_ok mtabok (f := 23) (e := 84) (by kernel_rfl))) <|
  all_cons (mark_fn (mkFI_ok Tryz.func30 (by kernel_rfl)) rfl (mkI_ok mtabok (f := 30) (e := 9) (by kernel_rfl))) <|
  all_cons (mark_fn (mkFI_ok Tryz.func47 (by kernel_rfl)) rfl (mkI_ok mtabok (f := 47) (e := 109) (by kernel_rfl))) <|
  all_cons (mark_fn (mkFI_ok Tryz.func48 (by kernel_rfl)) rfl (mkI_ok mtabok (f := 48) (e := 123) (by kernel_rfl))) <|
  all_cons (mark_fn (mkFI_ok Tryz.func49 (by kernel_rfl)) rfl (mkI_ok mtabok (f := 49) (e := 127) (by kernel_rfl))) <|
  all_cons (mark_fn (mkFI_ok Tryz.func68 (by kernel_rfl)) rfl (mkI_ok mtabok (f := 68) (e := 32) (by kernel_rfl))) <|
  all_cons (mark_fn (mkFI_ok Tryz.func69 (by kernel_rfl)) rfl (mkI_ok mtabok (f := 69) (e := 145) (by kernel_rfl))) <|
  all_cons (mark_fn (mkFI_ok Tryz.func99 (by kernel_rfl)) rfl (mkI_ok mtabok (f := 99) (e := 121) (by kernel_rfl))) <|
  all_cons (mark_fn (mkFI_ok Tryz.func100 (by kernel_rfl)) rfl (mkI_ok mtabok (f := 100) (e := 160) (by kernel_rfl))) <|
  all_cons (mark_fn (mkFI_ok Tryz.func14 (by kernel_rfl)) rfl (mkAI_ok mtabok Tryz.func14 (by kernel_rfl))) <|
  all_cons (mark_fn (mkFI_ok Tryz.func15 (by kernel_rfl)) rfl (mkAI_ok mtabok Tryz.func15 (by kernel_rfl))) <| all_nil
noncomputable def r_laws_FnExactFieldAt (a : List DC) : Out := Run cfg 3 ⟨.agg [.sl 79, .sl 79, .sl 112] :: os :: os :: [], []⟩ a
noncomputable def r_laws_szSchema (a : List DC) : Out := Run cfg 8 ⟨.agg [.sl 79, .sl 79, .sl 112] :: oi :: [], []⟩ a
noncomputable def r_laws_toSchema (a : List DC) : Out := Run cfg 10 ⟨.agg [.sl 79, .sl 79, .sl 112] :: [], []⟩ a
noncomputable def r_spec_FieldAt (a : List DC) : Out := Run cfg 9 ⟨.agg [.sl 84, .sl 84, .sl 109] :: os :: os :: [], []⟩ a
noncomputable def r_impl_FieldAt (a : List DC) : Out := Run cfg 11 ⟨.agg [.sl 84, .sl 84, .sl 109] :: os :: os :: [], []⟩ a
noncomputable def r_laws_eqFieldDef (a : List DC) : Out := Run cfg 12 ⟨.agg [.s, .s, .sl 123, .s, .s, .sl 127] :: .agg [.s, .s, .sl 123, .s, .s, .sl 127] :: [], []⟩ a
noncomputable def r_laws_eqSchema (a : List DC) : Out := Run cfg 13 ⟨.agg [.sl 84, .sl 84, .sl 109] :: .agg [.sl 84, .sl 84, .sl 109] :: [], []⟩ a
noncomputable def r_laws_heldFieldDef (a : List DC) : Out := Run cfg 16 ⟨.agg [.s, .s, .sl 123, .s, .s, .sl 127] :: oi :: [], []⟩ a
noncomputable def r_laws_szDefS (a : List DC) : Out := Run cfg 17 ⟨ol 79 :: oi :: [], []⟩ a
noncomputable def r_laws_szRootS (a : List DC) : Out := Run cfg 37 ⟨ol 112 :: oi :: [], []⟩ a
noncomputable def r_laws_toDefS (a : List DC) : Out := Run cfg 19 ⟨ol 79 :: [], []⟩ a
noncomputable def r_laws_toRootS (a : List DC) : Out := Run cfg 40 ⟨ol 112 :: [], []⟩ a
noncomputable def r_spec_l18Field (a : List DC) : Out := Run cfg 38 ⟨.agg [.sl 84, .sl 84, .sl 109] :: os :: os :: [], []⟩ a
noncomputable def r_spec_l13CopyFields (a : List DC) : Out := Run cfg 39 ⟨ol 32 :: [], []⟩ a
noncomputable def r_impl_fieldDef (a : List DC) : Out := Run cfg 41 ⟨.agg [.sl 84, .sl 84, .sl 109] :: os :: os :: [], []⟩ a
noncomputable def r_impl_cloneFields (a : List DC) : Out := Run cfg 42 ⟨ol 32 :: [], []⟩ a
noncomputable def r_laws_eqInDefS (a : List DC) : Out := Run cfg 43 ⟨ol 123 :: ol 123 :: [], []⟩ a
noncomputable def r_laws_eqType (a : List DC) : Out := Run cfg 44 ⟨.agg [.s, .s] :: .agg [.s, .s] :: [], []⟩ a
noncomputable def r_laws_eqDirS (a : List DC) : Out := Run cfg 45 ⟨ol 127 :: ol 127 :: [], []⟩ a
noncomputable def r_laws_eqDefS (a : List DC) : Out := Run cfg 21 ⟨ol 84 :: ol 84 :: [], []⟩ a
noncomputable def r_laws_eqRootS (a : List DC) : Out := Run cfg 46 ⟨ol 109 :: ol 109 :: [], []⟩ a
noncomputable def r_laws_heldInDefS (a : List DC) : Out := Run cfg 50 ⟨ol 123 :: oi :: [], []⟩ a
noncomputable def r_laws_heldDirS (a : List DC) : Out := Run cfg 51 ⟨ol 127 :: oi :: [], []⟩ a
noncomputable def r_laws_szDef (a : List DC) : Out := Run cfg 52 ⟨.agg [.i .i64, .b, .s, .s, .sl 9, .sl 164, .sl 170, .sl 173, .sl 112, .b, .sl 177] :: oi :: [], []⟩ a
noncomputable def r_laws_szRoot (a : List DC) : Out := Run cfg 87 ⟨.agg [.i .i64, .s] :: oi :: [], []⟩ a
noncomputable def r_laws_toDef (a : List DC) : Out := Run cfg 57 ⟨.agg [.i .i64, .b, .s, .s, .sl 9, .sl 164, .sl 170, .sl 173, .sl 112, .b, .sl 177] :: [], []⟩ a
noncomputable def r_laws_toRoot (a : List DC) : Out := Run cfg 91 ⟨.agg [.i .i64, .s] :: [], []⟩ a
noncomputable def r_spec_IsComposite (a : List DC) : Out := Run cfg 88 ⟨.agg [.sl 84, .sl 84, .sl 109] :: os :: [], []⟩ a
noncomputable def r_spec_TypeAt (a : List DC) : Out := Run cfg 73 ⟨.agg [.sl 84, .sl 84, .sl 109] :: os :: [], []⟩ a
noncomputable def r_spec_l13CopyIns (a : List DC) : Out := Run cfg 89 ⟨ol 123 :: [], []⟩ a
noncomputable def r_spec_l10Dirs (a : List DC) : Out := Run cfg 90 ⟨ol 127 :: [], []⟩ a
noncomputable def r_impl_IsComposite (a : List DC) : Out := Run cfg 92 ⟨.agg [.sl 84, .sl 84, .sl 109] :: os :: [], []⟩ a
noncomputable def r_impl_typeDef (a : List DC) : Out := Run cfg 76 ⟨.agg [.sl 84, .sl 84, .sl 109] :: os :: [], []⟩ a
noncomputable def r_impl_fieldOf (a : List DC) : Out := Run cfg 93 ⟨.agg [.i .i64, .b, .s, .s, .sl 9, .sl 32, .sl 123, .sl 145, .sl 109, .b, .sl 127] :: os :: [], []⟩ a
noncomputable def r_impl_cloneIns (a : List DC) : Out := Run cfg 94 ⟨ol 123 :: [], []⟩ a
noncomputable def r_impl_cloneDirs (a : List DC) : Out := Run cfg 95 ⟨ol 127 :: [], []⟩ a
noncomputable def r_laws_eqInDef (a : List DC) : Out := Run cfg 96 ⟨.agg [.s, .s, .s, .s, .b, .i .i64, .s, .sl 121, .sl 9, .sl 127] :: .agg [.s, .s, .s, .s, .b, .i .i64, .s, .sl 121, .sl 9, .sl 127] :: [], []⟩ a
noncomputable def r_laws_eqDir (a : List DC) : Out := Run cfg 97 ⟨.agg [.s, .sl 160] :: .agg [.s, .sl 160] :: [], []⟩ a
noncomputable def r_laws_eqDef (a : List DC) : Out := Run cfg 65 ⟨.agg [.i .i64, .b, .s, .s, .sl 9, .sl 32, .sl 123, .sl 145, .sl 109, .b, .sl 127] :: .agg [.i .i64, .b, .s, .s, .sl 9, .sl 32, .sl 123, .sl 145, .sl 109, .b, .sl 127] :: [], []⟩ a
noncomputable def r_laws_eqRoot (a : List DC) : Out := Run cfg 98 ⟨.agg [.i .i64, .s] :: .agg [.i .i64, .s] :: [], []⟩ a
noncomputable def r_laws_markText (a : List DC) : Out := Run cfg 67 ⟨oi :: [], []⟩ a
noncomputable def r_laws_heldValueS (a : List DC) : Out := Run cfg 101 ⟨ol 121 :: oi :: [], []⟩ a
noncomputable def r_laws_heldStringS (a : List DC) : Out := Run cfg 31 ⟨ol 9 :: oi :: [], []⟩ a
noncomputable def r_laws_heldArgS (a : List DC) : Out := Run cfg 102 ⟨ol 160 :: oi :: [], []⟩ a
noncomputable def r_laws_szStringS (a : List DC) : Out := Run cfg 103 ⟨ol 9 :: oi :: [], []⟩ a
noncomputable def r_laws_szFieldDefS (a : List DC) : Out := Run cfg 104 ⟨ol 164 :: oi :: [], []⟩ a
noncomputable def r_laws_szInDefS (a : List DC) : Out := Run cfg 105 ⟨ol 170 :: oi :: [], []⟩ a
noncomputable def r_laws_szEnumDefS (a : List DC) : Out := Run cfg 106 ⟨ol 173 :: oi :: [], []⟩ a
noncomputable def r_laws_szDirS (a : List DC) : Out := Run cfg 107 ⟨ol 177 :: oi :: [], []⟩ a
noncomputable def r_laws_toStringS (a : List DC) : Out := Run cfg 109 ⟨ol 9 :: [], []⟩ a
noncomputable def r_laws_toFieldDefS (a : List DC) : Out := Run cfg 110 ⟨ol 164 :: [], []⟩ a
noncomputable def r_laws_toInDefS (a : List DC) : Out := Run cfg 111 ⟨ol 170 :: [], []⟩ a
noncomputable def r_laws_toEnumDefS (a : List DC) : Out := Run cfg 112 ⟨ol 173 :: [], []⟩ a
noncomputable def r_laws_toDirS (a : List DC) : Out := Run cfg 113 ⟨ol 177 :: [], []⟩ a
noncomputable def r_spec_KindOf (a : List DC) : Out := Run cfg 129 ⟨.agg [.sl 84, .sl 84, .sl 109] :: os :: [], []⟩ a
noncomputable def r_spec_l07Copy (a : List DC) : Out := Run cfg 130 ⟨.agg [.i .i64, .s, .sl 121, .sl 9] :: [], []⟩ a
noncomputable def r_spec_l10Args (a : List DC) : Out := Run cfg 131 ⟨ol 160 :: [], []⟩ a
noncomputable def r_impl_KindOf (a : List DC) : Out := Run cfg 132 ⟨.agg [.sl 84, .sl 84, .sl 109] :: os :: [], []⟩ a
noncomputable def r_impl_TypeAt (a : List DC) : Out := Run cfg 119 ⟨.agg [.sl 84, .sl 84, .sl 109] :: os :: [], []⟩ a
noncomputable def r_slices_IndexFunc_impl_FieldDef__impl_fieldOf_1 (a : List DC) : Out := Run cfg 133 ⟨ol 32 :: .one (.fn 134 [0]) :: [], .var 9 [.s] :: []⟩ a
noncomputable def r_impl_cloneValue (a : List DC) : Out := Run cfg 135 ⟨.agg [.i .i64, .s, .sl 121, .sl 9] :: [], []⟩ a
noncomputable def r_impl_cloneArgs (a : List DC) : Out := Run cfg 136 ⟨ol 160 :: [], []⟩ a
noncomputable def r_laws_eqValue (a : List DC) : Out := Run cfg 137 ⟨.agg [.i .i64, .s, .sl 121, .sl 9] :: .agg [.i .i64, .s, .sl 121, .sl 9] :: [], []⟩ a
noncomputable def r_laws_eqArgS (a : List DC) : Out := Run cfg 138 ⟨ol 160 :: ol 160 :: [], []⟩ a
noncomputable def r_laws_eqStringS (a : List DC) : Out := Run cfg 29 ⟨ol 9 :: ol 9 :: [], []⟩ a
noncomputable def r_laws_eqFieldDefS (a : List DC) : Out := Run cfg 117 ⟨ol 32 :: ol 32 :: [], []⟩ a
noncomputable def r_laws_eqEnumDefS (a : List DC) : Out := Run cfg 118 ⟨ol 145 :: ol 145 :: [], []⟩ a
noncomputable def r_laws_szFieldDef (a : List DC) : Out := Run cfg 139 ⟨.agg [.s, .s, .sl 170, .s, .s, .sl 177] :: oi :: [], []⟩ a
noncomputable def r_laws_szInDef (a : List DC) : Out := Run cfg 140 ⟨.agg [.s, .s, .s, .s, .b, .i .i64, .s, .sl 168, .sl 9, .sl 177] :: oi :: [], []⟩ a
noncomputable def r_laws_szEnumDef (a : List DC) : Out := Run cfg 141 ⟨.agg [.s, .s, .sl 177] :: oi :: [], []⟩ a
noncomputable def r_laws_szDir (a : List DC) : Out := Run cfg 142 ⟨.agg [.s, .sl 221] :: oi :: [], []⟩ a
noncomputable def r_laws_toFieldDef (a : List DC) : Out := Run cfg 143 ⟨.agg [.s, .s, .sl 170, .s, .s, .sl 177] :: [], []⟩ a
noncomputable def r_laws_toInDef (a : List DC) : Out := Run cfg 144 ⟨.agg [.s, .s, .s, .s, .b, .i .i64, .s, .sl 168, .sl 9, .sl 177] :: [], []⟩ a
noncomputable def r_laws_toEnumDef (a : List DC) : Out := Run cfg 145 ⟨.agg [.s, .s, .sl 177] :: [], []⟩ a
noncomputable def r_laws_toDir (a : List DC) : Out := Run cfg 146 ⟨.agg [.s, .sl 221] :: [], []⟩ a
noncomputable def r_spec_BuiltIn (a : List DC) : Out := Run cfg 165 ⟨os :: [], []⟩ a
noncomputable def r_impl_BuiltIn (a : List DC) : Out := Run cfg 166 ⟨os :: [], []⟩ a
noncomputable def r_impl_named (a : List DC) : Out := Run cfg 148 ⟨ol 84 :: os :: [], []⟩ a
noncomputable def r_impl_fieldOf_1 (a : List DC) : Out := Run cfg 134 ⟨.agg [.s, .s, .sl 123, .s, .s, .sl 127] :: .one (.ptr 0 0) :: [], .var 9 [.s] :: []⟩ a
noncomputable def r_slices_Clone_string (a : List DC) : Out := Run cfg 114 h_slices_Clone_string a
noncomputable def r_laws_eqValueS (a : List DC) : Out := Run cfg 167 ⟨ol 121 :: ol 121 :: [], []⟩ a
noncomputable def r_laws_eqArg (a : List DC) : Out := Run cfg 168 ⟨.agg [.s, .i .i64, .s, .sl 121, .sl 9] :: .agg [.s, .i .i64, .s, .sl 121, .sl 9] :: [], []⟩ a
noncomputable def r_laws_eqEnumDef (a : List DC) : Out := Run cfg 147 ⟨.agg [.s, .s, .sl 127] :: .agg [.s, .s, .sl 127] :: [], []⟩ a
noncomputable def r_laws_szType (a : List DC) : Out := Run cfg 169 ⟨.agg [.s, .s] :: oi :: [], []⟩ a
noncomputable def r_laws_szValue (a : List DC) : Out := Run cfg 170 ⟨.agg [.i .i64, .s, .sl 168, .sl 9] :: oi :: [], []⟩ a
noncomputable def r_laws_szArgS (a : List DC) : Out := Run cfg 171 ⟨ol 221 :: oi :: [], []⟩ a
noncomputable def r_laws_toType (a : List DC) : Out := Run cfg 172 ⟨.agg [.s, .s] :: [], []⟩ a
noncomputable def r_laws_toValue (a : List DC) : Out := Run cfg 173 ⟨.agg [.i .i64, .s, .sl 168, .sl 9] :: [], []⟩ a
noncomputable def r_laws_toArgS (a : List DC) : Out := Run cfg 174 ⟨ol 221 :: [], []⟩ a
noncomputable def r_slices_IndexFunc_impl_Def__impl_named_1 (a : List DC) : Out := Run cfg 62 ⟨ol 84 :: .one (.fn 175 [0]) :: [], .var 9 [.s] :: []⟩ a
noncomputable def r_laws_szValueS (a : List DC) : Out := Run cfg 185 ⟨ol 168 :: oi :: [], []⟩ a
noncomputable def r_laws_szArg (a : List DC) : Out := Run cfg 186 ⟨.agg [.s, .i .i64, .s, .sl 168, .sl 9] :: oi :: [], []⟩ a
noncomputable def r_laws_toValueS (a : List DC) : Out := Run cfg 187 ⟨ol 168 :: [], []⟩ a
noncomputable def r_laws_toArg (a : List DC) : Out := Run cfg 188 ⟨.agg [.s, .i .i64, .s, .sl 168, .sl 9] :: [], []⟩ a
noncomputable def r_impl_named_1 (a : List DC) : Out := Run cfg 175 ⟨.agg [.i .i64, .b, .s, .s, .sl 9, .sl 32, .sl 123, .sl 145, .sl 109, .b, .sl 127] :: .one (.ptr 0 0) :: [], .var 9 [.s] :: []⟩ a
noncomputable def E_laws_FnExactFieldAt (a : List DC) : Out :=
 if (decide ((((a.getD 3 d0).ss).length : Int) > (1048576 : Int))) = true then
 .ret [.b true]
 else
 if (decide ((((a.getD 4 d0).ss).length : Int) > (1048576 : Int))) = true then
 .ret [.b true]
 else
 (r_laws_szSchema [.sl ((a.getD 0 d0).ll), .sl ((a.getD 1 d0).ll), .sl ((a.getD 2 d0).ll), .i (1048576 : Int)]).bindR fun r1 =>
 if (decide ((r1.getD 0 d0).ii < (0 : Int))) = true then
 .ret [.b true]
 else
 (r_laws_toSchema [.sl ((a.getD 0 d0).ll), .sl ((a.getD 1 d0).ll), .sl ((a.getD 2 d0).ll)]).bindR fun r2 =>
 (r_spec_FieldAt [.sl ((r2.getD 0 d0).ll), .sl ((r2.getD 1 d0).ll), .sl ((r2.getD 2 d0).ll), .s ((a.getD 3 d0).ss), .s ((a.getD 4 d0).ss)]).bindR fun r3 =>
 (r_laws_toSchema [.sl ((a.getD 0 d0).ll), .sl ((a.getD 1 d0).ll), .sl ((a.getD 2 d0).ll)]).bindR fun r4 =>
 (r_impl_FieldAt [.sl ((r4.getD 0 d0).ll), .sl ((r4.getD 1 d0).ll), .sl ((r4.getD 2 d0).ll), .s ((a.getD 3 d0).ss), .s ((a.getD 4 d0).ss)]).bindR fun r5 =>
 Out.andThen ((r_laws_eqFieldDef [.s ((r5.getD 0 d0).ss), .s ((r5.getD 1 d0).ss), .sl ((r5.getD 2 d0).ll), .s ((r5.getD 3 d0).ss), .s ((r5.getD 4 d0).ss), .sl ((r5.getD 5 d0).ll), .s ((r3.getD 0 d0).ss), .s ((r3.getD 1 d0).ss), .sl ((r3.getD 2 d0).ll), .s ((r3.getD 3 d0).ss), .s ((r3.getD 4 d0).ss), .sl ((r3.getD 5 d0).ll)]).bindR fun r6 =>
 if (!((r6.getD 0 d0).bb)) = true then
 .norm [.s ((a.getD 3 d0).ss), .s ((a.getD 4 d0).ss), .b ((r3.getD 6 d0).bb), .b ((r5.getD 6 d0).bb), .b true, .sl ((a.getD 0 d0).ll), .sl ((a.getD 1 d0).ll), .sl ((a.getD 2 d0).ll), .s ((r3.getD 0 d0).ss), .s ((r3.getD 1 d0).ss), .sl ((r3.getD 2 d0).ll), .s ((r3.getD 3 d0).ss), .s ((r3.getD 4 d0).ss), .sl ((r3.getD 5 d0).ll), .sl ((r4.getD 0 d0).ll), .sl ((r4.getD 1 d0).ll), .sl ((r4.getD 2 d0).ll), .s ((r5.getD 0 d0).ss), .s ((r5.getD 1 d0).ss), .sl ((r5.getD 2 d0).ll), .s ((r5.getD 3 d0).ss), .s ((r5.getD 4 d0).ss), .sl ((r5.getD 5 d0).ll)]
 else
 .norm [.s ((a.getD 3 d0).ss), .s ((a.getD 4 d0).ss), .b ((r3.getD 6 d0).bb), .b ((r5.getD 6 d0).bb), .b (!((r5.getD 6 d0).bb == (r3.getD 6 d0).bb)), .sl ((a.getD 0 d0).ll), .sl ((a.getD 1 d0).ll), .sl ((a.getD 2 d0).ll), .s ((r3.getD 0 d0).ss), .s ((r3.getD 1 d0).ss), .sl ((r3.getD 2 d0).ll), .s ((r3.getD 3 d0).ss), .s ((r3.getD 4 d0).ss), .sl ((r3.getD 5 d0).ll), .sl ((r4.getD 0 d0).ll), .sl ((r4.getD 1 d0).ll), .sl ((r4.getD 2 d0).ll), .s ((r5.getD 0 d0).ss), .s ((r5.getD 1 d0).ss), .sl ((r5.getD 2 d0).ll), .s ((r5.getD 3 d0).ss), .s ((r5.getD 4 d0).ss), .sl ((r5.getD 5 d0).ll)]) fun v7 =>
 if (v7.getD 4 d0).bb = true then
 .ret [.b false]
 else
 (r_laws_toSchema [.sl ((v7.getD 5 d0).ll), .sl ((v7.getD 6 d0).ll), .sl ((v7.getD 7 d0).ll)]).bindR fun r8 =>
 (r_laws_eqSchema [.sl ((v7.getD 14 d0).ll), .sl ((v7.getD 15 d0).ll), .sl ((v7.getD 16 d0).ll), .sl ((r8.getD 0 d0).ll), .sl ((r8.getD 1 d0).ll), .sl ((r8.getD 2 d0).ll)]).bindR fun r9 =>
 if (!((r9.getD 0 d0).bb)) = true then
 .ret [.b false]
 else
 markM Out.fail (mkAV mT mTab [23, 23, 47] [(v7.getD 14 d0).ll, (v7.getD 15 d0).ll, (v7.getD 16 d0).ll] (1 : Int)) 3 fun l10 k11 =>
 Out.andThen (if (decide (k11 < (0 : Int))) = true then
 .norm [.s ((v7.getD 0 d0).ss), .s ((v7.getD 1 d0).ss), .b ((v7.getD 2 d0).bb), .b true, .sl ((v7.getD 5 d0).ll), .sl ((v7.getD 6 d0).ll), .sl ((v7.getD 7 d0).ll), .s ((v7.getD 8 d0).ss), .s ((v7.getD 9 d0).ss), .sl ((v7.getD 10 d0).ll), .s ((v7.getD 11 d0).ss), .s ((v7.getD 12 d0).ss), .sl ((v7.getD 13 d0).ll), .s ((v7.getD 17 d0).ss), .s ((v7.getD 18 d0).ss), .sl ((v7.getD 19 d0).ll), .s ((v7.getD 20 d0).ss), .s ((v7.getD 21 d0).ss), .sl ((v7.getD 22 d0).ll)]
 else
 (r_laws_eqFieldDef [.s ((v7.getD 17 d0).ss), .s ((v7.getD 18 d0).ss), .sl ((v7.getD 19 d0).ll), .s ((v7.getD 20 d0).ss), .s ((v7.getD 21 d0).ss), .sl ((v7.getD 22 d0).ll), .s ((v7.getD 8 d0).ss), .s ((v7.getD 9 d0).ss), .sl ((v7.getD 10 d0).ll), .s ((v7.getD 11 d0).ss), .s ((v7.getD 12 d0).ss), .sl ((v7.getD 13 d0).ll)]).bindR fun r12 =>
 if (!((r12.getD 0 d0).bb)) = true then
 .norm [.s ((v7.getD 0 d0).ss), .s ((v7.getD 1 d0).ss), .b ((v7.getD 2 d0).bb), .b true, .sl ((v7.getD 5 d0).ll), .sl ((v7.getD 6 d0).ll), .sl ((v7.getD 7 d0).ll), .s ((v7.getD 8 d0).ss), .s ((v7.getD 9 d0).ss), .sl ((v7.getD 10 d0).ll), .s ((v7.getD 11 d0).ss), .s ((v7.getD 12 d0).ss), .sl ((v7.getD 13 d0).ll), .s ((v7.getD 17 d0).ss), .s ((v7.getD 18 d0).ss), .sl ((v7.getD 19 d0).ll), .s ((v7.getD 20 d0).ss), .s ((v7.getD 21 d0).ss), .sl ((v7.getD 22 d0).ll)]
 else
 .norm [.s ((v7.getD 0 d0).ss), .s ((v7.getD 1 d0).ss), .b ((v7.getD 2 d0).bb), .b (!((v7.getD 3 d0).bb == (v7.getD 2 d0).bb)), .sl ((v7.getD 5 d0).ll), .sl ((v7.getD 6 d0).ll), .sl ((v7.getD 7 d0).ll), .s ((v7.getD 8 d0).ss), .s ((v7.getD 9 d0).ss), .sl ((v7.getD 10 d0).ll), .s ((v7.getD 11 d0).ss), .s ((v7.getD 12 d0).ss), .sl ((v7.getD 13 d0).ll), .s ((v7.getD 17 d0).ss), .s ((v7.getD 18 d0).ss), .sl ((v7.getD 19 d0).ll), .s ((v7.getD 20 d0).ss), .s ((v7.getD 21 d0).ss), .sl ((v7.getD 22 d0).ll)]) fun v13 =>
 if (v13.getD 3 d0).bb = true then
 .ret [.b false]
 else
 markM Out.fail (mkAV mT mTab [48, 49] [(v13.getD 15 d0).ll, (v13.getD 18 d0).ll] (1 : Int)) 2 fun l14 k15 =>
 (r_laws_heldFieldDef [.s ((v13.getD 13 d0).ss), .s ((v13.getD 14 d0).ss), .sl (l14.getD 0 []), .s ((v13.getD 16 d0).ss), .s ((v13.getD 17 d0).ss), .sl (l14.getD 1 []), .i (1 : Int)]).bindR fun r16 =>
 if (decide ((r16.getD 0 d0).ii < (0 : Int))) = true then
 .ret [.b false]
 else
 if ((r16.getD 0 d0).ii != k15) = true then
 .ret [.b false]
 else
 (r_laws_toSchema [.sl ((v13.getD 4 d0).ll), .sl ((v13.getD 5 d0).ll), .sl ((v13.getD 6 d0).ll)]).bindR fun r17 =>
 (r_impl_FieldAt [.sl ((r17.getD 0 d0).ll), .sl ((r17.getD 1 d0).ll), .sl ((r17.getD 2 d0).ll), .s ((v13.getD 0 d0).ss), .s ((v13.getD 1 d0).ss)]).bindR fun r18 =>
 Out.andThen ((r_laws_eqFieldDef [.s ((r18.getD 0 d0).ss), .s ((r18.getD 1 d0).ss), .sl ((r18.getD 2 d0).ll), .s ((r18.getD 3 d0).ss), .s ((r18.getD 4 d0).ss), .sl ((r18.getD 5 d0).ll), .s ((v13.getD 7 d0).ss), .s ((v13.getD 8 d0).ss), .sl ((v13.getD 9 d0).ll), .s ((v13.getD 10 d0).ss), .s ((v13.getD 11 d0).ss), .sl ((v13.getD 12 d0).ll)]).bindR fun r19 =>
 if (!((r19.getD 0 d0).bb)) = true then
 .norm [.i k15, .b true, .s ((v13.getD 13 d0).ss), .s ((v13.getD 14 d0).ss), .sl (l14.getD 0 []), .s ((v13.getD 16 d0).ss), .s ((v13.getD 17 d0).ss), .sl (l14.getD 1 [])]
 else
 .norm [.i k15, .b (!((r18.getD 6 d0).bb == (v13.getD 2 d0).bb)), .s ((v13.getD 13 d0).ss), .s ((v13.getD 14 d0).ss), .sl (l14.getD 0 []), .s ((v13.getD 16 d0).ss), .s ((v13.getD 17 d0).ss), .sl (l14.getD 1 [])]) fun v20 =>
 if (v20.getD 1 d0).bb = true then
 .ret [.b false]
 else
 (r_laws_heldFieldDef [.s ((v20.getD 2 d0).ss), .s ((v20.getD 3 d0).ss), .sl ((v20.getD 4 d0).ll), .s ((v20.getD 5 d0).ss), .s ((v20.getD 6 d0).ss), .sl ((v20.getD 7 d0).ll), .i (1 : Int)]).bindR fun r21 =>
 if (decide ((r21.getD 0 d0).ii < (0 : Int))) = true then
 .ret [.b false]
 else
 if ((r21.getD 0 d0).ii != (v20.getD 0 d0).ii) = true then
 .ret [.b false]
 else
 .ret [.b true]
theorem eq_laws_FnExactFieldAt a : r_laws_FnExactFieldAt a = E_laws_FnExactFieldAt a := (Run_eq cfg 3 _ a).trans (by kernel_rfl)
noncomputable def E_laws_szSchema (a : List DC) : Out :=
 (r_laws_szDefS [.sl ((a.getD 0 d0).ll), .i ((a.getD 3 d0).ii)]).bindR fun r1 =>
 if (decide ((r1.getD 0 d0).ii < (0 : Int))) = true then
 .ret [.i (-1 : Int)]
 else
 (r_laws_szDefS [.sl ((a.getD 1 d0).ll), .i ((r1.getD 0 d0).ii)]).bindR fun r2 =>
 if (decide ((r2.getD 0 d0).ii < (0 : Int))) = true then
 .ret [.i (-1 : Int)]
 else
 (r_laws_szRootS [.sl ((a.getD 2 d0).ll), .i ((r2.getD 0 d0).ii)]).bindR fun r3 =>
 if (decide ((r3.getD 0 d0).ii < (0 : Int))) = true then
 .ret [.i (-1 : Int)]
 else
 .ret [.i ((r3.getD 0 d0).ii)]
theorem eq_laws_szSchema a : r_laws_szSchema a = E_laws_szSchema a := (Run_eq cfg 8 _ a).trans (by kernel_rfl)
noncomputable def E_laws_toSchema (a : List DC) : Out :=
 (r_laws_toDefS [.sl ((a.getD 0 d0).ll)]).bindR fun r1 =>
 (r_laws_toDefS [.sl ((a.getD 1 d0).ll)]).bindR fun r2 =>
 (r_laws_toRootS [.sl ((a.getD 2 d0).ll)]).bindR fun r3 =>
 .ret [.sl ((r1.getD 0 d0).ll), .sl ((r2.getD 0 d0).ll), .sl ((r3.getD 0 d0).ll)]
theorem eq_laws_toSchema a : r_laws_toSchema a = E_laws_toSchema a := (Run_eq cfg 10 _ a).trans (by kernel_rfl)
noncomputable def E_spec_FieldAt (a : List DC) : Out :=
 (r_spec_l18Field [.sl ((a.getD 0 d0).ll), .sl ((a.getD 1 d0).ll), .sl ((a.getD 2 d0).ll), .s ((a.getD 3 d0).ss), .s ((a.getD 4 d0).ss)]).bindR fun r1 =>
 (r_spec_l13CopyFields [.sl [[DC.s ((r1.getD 0 d0).ss), DC.s ((r1.getD 1 d0).ss), DC.sl ((r1.getD 2 d0).ll), DC.s ((r1.getD 3 d0).ss), DC.s ((r1.getD 4 d0).ss), DC.sl ((r1.getD 5 d0).ll)]]]).bindR fun r2 =>
 if 32 = 32 ∧ 0 ≤ (0 : Int) ∧ (0 : Int) < (((r2.getD 0 d0).ll).length : Int) then
 .ret [.s (((((r2.getD 0 d0).ll).getD (0 : Int).toNat []).getD 0 d0).ss), .s (((((r2.getD 0 d0).ll).getD (0 : Int).toNat []).getD 1 d0).ss), .sl (((((r2.getD 0 d0).ll).getD (0 : Int).toNat []).getD 2 d0).ll), .s (((((r2.getD 0 d0).ll).getD (0 : Int).toNat []).getD 3 d0).ss), .s (((((r2.getD 0 d0).ll).getD (0 : Int).toNat []).getD 4 d0).ss), .sl (((((r2.getD 0 d0).ll).getD (0 : Int).toNat []).getD 5 d0).ll), .b ((r1.getD 6 d0).bb)]
 else
 .fail
theorem eq_spec_FieldAt a : r_spec_FieldAt a = E_spec_FieldAt a := (Run_eq cfg 9 _ a).trans (by kernel_rfl)
noncomputable def E_impl_FieldAt (a : List DC) : Out :=
 (r_impl_fieldDef [.sl ((a.getD 0 d0).ll), .sl ((a.getD 1 d0).ll), .sl ((a.getD 2 d0).ll), .s ((a.getD 3 d0).ss), .s ((a.getD 4 d0).ss)]).bindR fun r1 =>
 if (!((r1.getD 6 d0).bb)) = true then
 .ret [.s [], .s [], .sl [], .s [], .s [], .sl [], .b false]
 else
 (r_impl_cloneFields [.sl [[DC.s ((r1.getD 0 d0).ss), DC.s ((r1.getD 1 d0).ss), DC.sl ((r1.getD 2 d0).ll), DC.s ((r1.getD 3 d0).ss), DC.s ((r1.getD 4 d0).ss), DC.sl ((r1.getD 5 d0).ll)]]]).bindR fun r2 =>
 if 32 = 32 ∧ 0 ≤ (0 : Int) ∧ (0 : Int) < (((r2.getD 0 d0).ll).length : Int) then
 .ret [.s (((((r2.getD 0 d0).ll).getD (0 : Int).toNat []).getD 0 d0).ss), .s (((((r2.getD 0 d0).ll).getD (0 : Int).toNat []).getD 1 d0).ss), .sl (((((r2.getD 0 d0).ll).getD (0 : Int).toNat []).getD 2 d0).ll), .s (((((r2.getD 0 d0).ll).getD (0 : Int).toNat []).getD 3 d0).ss), .s (((((r2.getD 0 d0).ll).getD (0 : Int).toNat []).getD 4 d0).ss), .sl (((((r2.getD 0 d0).ll).getD (0 : Int).toNat []).getD 5 d0).ll), .b true]
 else
 .fail
theorem eq_impl_FieldAt a : r_impl_FieldAt a = E_impl_FieldAt a := (Run_eq cfg 11 _ a).trans (by kernel_rfl)
noncomputable def E_laws_eqFieldDef (a : List DC) : Out :=
 if (!((a.getD 0 d0).ss == (a.getD 6 d0).ss)) = true then
 .ret [.b false]
 else
 if (!((a.getD 1 d0).ss == (a.getD 7 d0).ss)) = true then
 .ret [.b false]
 else
 (r_laws_eqInDefS [.sl ((a.getD 2 d0).ll), .sl ((a.getD 8 d0).ll)]).bindR fun r1 =>
 if (!((r1.getD 0 d0).bb)) = true then
 .ret [.b false]
 else
 (r_laws_eqType [.s ((a.getD 3 d0).ss), .s ((a.getD 4 d0).ss), .s ((a.getD 9 d0).ss), .s ((a.getD 10 d0).ss)]).bindR fun r2 =>
 if (!((r2.getD 0 d0).bb)) = true then
 .ret [.b false]
 else
 (r_laws_eqDirS [.sl ((a.getD 5 d0).ll), .sl ((a.getD 11 d0).ll)]).bindR fun r3 =>
 if (!((r3.getD 0 d0).bb)) = true then
 .ret [.b false]
 else
 .ret [.b true]
theorem eq_laws_eqFieldDef a : r_laws_eqFieldDef a = E_laws_eqFieldDef a := (Run_eq cfg 12 _ a).trans (by kernel_rfl)
noncomputable def E_laws_eqSchema (a : List DC) : Out :=
 (r_laws_eqDefS [.sl ((a.getD 0 d0).ll), .sl ((a.getD 3 d0).ll)]).bindR fun r1 =>
 if (!((r1.getD 0 d0).bb)) = true then
 .ret [.b false]
 else
 (r_laws_eqDefS [.sl ((a.getD 1 d0).ll), .sl ((a.getD 4 d0).ll)]).bindR fun r2 =>
 if (!((r2.getD 0 d0).bb)) = true then
 .ret [.b false]
 else
 (r_laws_eqRootS [.sl ((a.getD 2 d0).ll), .sl ((a.getD 5 d0).ll)]).bindR fun r3 =>
 if (!((r3.getD 0 d0).bb)) = true then
 .ret [.b false]
 else
 .ret [.b true]
theorem eq_laws_eqSchema a : r_laws_eqSchema a = E_laws_eqSchema a := (Run_eq cfg 13 _ a).trans (by kernel_rfl)
noncomputable def E_laws_heldFieldDef (a : List DC) : Out :=
 (r_laws_heldInDefS [.sl ((a.getD 2 d0).ll), .i ((a.getD 6 d0).ii)]).bindR fun r1 =>
 if (decide ((r1.getD 0 d0).ii < (0 : Int))) = true then
 .ret [.i (-1 : Int)]
 else
 (r_laws_heldDirS [.sl ((a.getD 5 d0).ll), .i ((r1.getD 0 d0).ii)]).bindR fun r2 =>
 if (decide ((r2.getD 0 d0).ii < (0 : Int))) = true then
 .ret [.i (-1 : Int)]
 else
 .ret [.i ((r2.getD 0 d0).ii)]
theorem eq_laws_heldFieldDef a : r_laws_heldFieldDef a = E_laws_heldFieldDef a := (Run_eq cfg 16 _ a).trans (by kernel_rfl)
noncomputable def E_laws_szDefSL1 : List DC → Out := fun v1 =>
 if (decide ((v1.getD 2 d0).ii < (((v1.getD 0 d0).ll).length : Int))) = true then
 Out.andThenB (if 79 = 79 ∧ 0 ≤ (v1.getD 2 d0).ii ∧ (v1.getD 2 d0).ii < (((v1.getD 0 d0).ll).length : Int) then
 (r_laws_szDef [.i (((((v1.getD 0 d0).ll).getD ((v1.getD 2 d0).ii).toNat []).getD 0 d0).ii), .b (((((v1.getD 0 d0).ll).getD ((v1.getD 2 d0).ii).toNat []).getD 1 d0).bb), .s (((((v1.getD 0 d0).ll).getD ((v1.getD 2 d0).ii).toNat []).getD 2 d0).ss), .s (((((v1.getD 0 d0).ll).getD ((v1.getD 2 d0).ii).toNat []).getD 3 d0).ss), .sl (((((v1.getD 0 d0).ll).getD ((v1.getD 2 d0).ii).toNat []).getD 4 d0).ll), .sl (((((v1.getD 0 d0).ll).getD ((v1.getD 2 d0).ii).toNat []).getD 5 d0).ll), .sl (((((v1.getD 0 d0).ll).getD ((v1.getD 2 d0).ii).toNat []).getD 6 d0).ll), .sl (((((v1.getD 0 d0).ll).getD ((v1.getD 2 d0).ii).toNat []).getD 7 d0).ll), .sl (((((v1.getD 0 d0).ll).getD ((v1.getD 2 d0).ii).toNat []).getD 8 d0).ll), .b (((((v1.getD 0 d0).ll).getD ((v1.getD 2 d0).ii).toNat []).getD 9 d0).bb), .sl (((((v1.getD 0 d0).ll).getD ((v1.getD 2 d0).ii).toNat []).getD 10 d0).ll), .i ((v1.getD 1 d0).ii)]).bindR fun r2 =>
 if (decide ((r2.getD 0 d0).ii < (0 : Int))) = true then
 .ret [.i (-1 : Int)]
 else
 .norm [.sl ((v1.getD 0 d0).ll), .i ((r2.getD 0 d0).ii), .i ((v1.getD 2 d0).ii)]
 else
 .fail) 1 fun v3 =>
 .norm [.sl ((v3.getD 0 d0).ll), .i ((v3.getD 1 d0).ii), .i (IntKind.i64.wrap ((v3.getD 2 d0).ii + (1 : Int)))]
 else
 .ex 0 [.i ((v1.getD 1 d0).ii)]
noncomputable def E_laws_szDefS (a : List DC) : Out :=
 if (decide ((IntKind.i64.wrap ((a.getD 1 d0).ii - (((a.getD 0 d0).ll).length : Int))) < (0 : Int))) = true then
 .ret [.i (-1 : Int)]
 else
 Out.andThenB (Loop E_laws_szDefSL1 [.sl ((a.getD 0 d0).ll), .i (IntKind.i64.wrap ((a.getD 1 d0).ii - (((a.getD 0 d0).ll).length : Int))), .i (0 : Int)]) 0 fun v4 =>
 .ret [.i ((v4.getD 0 d0).ii)]
theorem eq_laws_szDefS a : r_laws_szDefS a = E_laws_szDefS a := (Run_eq cfg 17 _ a).trans (by kernel_rfl)
noncomputable def E_laws_szRootSL1 : List DC → Out := fun v1 =>
 if (decide ((v1.getD 2 d0).ii < (((v1.getD 0 d0).ll).length : Int))) = true then
 Out.andThenB (if 112 = 112 ∧ 0 ≤ (v1.getD 2 d0).ii ∧ (v1.getD 2 d0).ii < (((v1.getD 0 d0).ll).length : Int) then
 (r_laws_szRoot [.i (((((v1.getD 0 d0).ll).getD ((v1.getD 2 d0).ii).toNat []).getD 0 d0).ii), .s (((((v1.getD 0 d0).ll).getD ((v1.getD 2 d0).ii).toNat []).getD 1 d0).ss), .i ((v1.getD 1 d0).ii)]).bindR fun r2 =>
 if (decide ((r2.getD 0 d0).ii < (0 : Int))) = true then
 .ret [.i (-1 : Int)]
 else
 .norm [.sl ((v1.getD 0 d0).ll), .i ((r2.getD 0 d0).ii), .i ((v1.getD 2 d0).ii)]
 else
 .fail) 1 fun v3 =>
 .norm [.sl ((v3.getD 0 d0).ll), .i ((v3.getD 1 d0).ii), .i (IntKind.i64.wrap ((v3.getD 2 d0).ii + (1 : Int)))]
 else
 .ex 0 [.i ((v1.getD 1 d0).ii)]
noncomputable def E_laws_szRootS (a : List DC) : Out :=
 if (decide ((IntKind.i64.wrap ((a.getD 1 d0).ii - (((a.getD 0 d0).ll).length : Int))) < (0 : Int))) = true then
 .ret [.i (-1 : Int)]
 else
 Out.andThenB (Loop E_laws_szRootSL1 [.sl ((a.getD 0 d0).ll), .i (IntKind.i64.wrap ((a.getD 1 d0).ii - (((a.getD 0 d0).ll).length : Int))), .i (0 : Int)]) 0 fun v4 =>
 .ret [.i ((v4.getD 0 d0).ii)]
theorem eq_laws_szRootS a : r_laws_szRootS a = E_laws_szRootS a := (Run_eq cfg 37 _ a).trans (by kernel_rfl)
noncomputable def E_laws_toDefSL1 : List DC → Out := fun v1 =>
 if (decide ((v1.getD 2 d0).ii < (((v1.getD 0 d0).ll).length : Int))) = true then
 Out.andThenB (if 79 = 79 ∧ 0 ≤ (v1.getD 2 d0).ii ∧ (v1.getD 2 d0).ii < (((v1.getD 0 d0).ll).length : Int) then
 (r_laws_toDef [.i (((((v1.getD 0 d0).ll).getD ((v1.getD 2 d0).ii).toNat []).getD 0 d0).ii), .b (((((v1.getD 0 d0).ll).getD ((v1.getD 2 d0).ii).toNat []).getD 1 d0).bb), .s (((((v1.getD 0 d0).ll).getD ((v1.getD 2 d0).ii).toNat []).getD 2 d0).ss), .s (((((v1.getD 0 d0).ll).getD ((v1.getD 2 d0).ii).toNat []).getD 3 d0).ss), .sl (((((v1.getD 0 d0).ll).getD ((v1.getD 2 d0).ii).toNat []).getD 4 d0).ll), .sl (((((v1.getD 0 d0).ll).getD ((v1.getD 2 d0).ii).toNat []).getD 5 d0).ll), .sl (((((v1.getD 0 d0).ll).getD ((v1.getD 2 d0).ii).toNat []).getD 6 d0).ll), .sl (((((v1.getD 0 d0).ll).getD ((v1.getD 2 d0).ii).toNat []).getD 7 d0).ll), .sl (((((v1.getD 0 d0).ll).getD ((v1.getD 2 d0).ii).toNat []).getD 8 d0).ll), .b (((((v1.getD 0 d0).ll).getD ((v1.getD 2 d0).ii).toNat []).getD 9 d0).bb), .sl (((((v1.getD 0 d0).ll).getD ((v1.getD 2 d0).ii).toNat []).getD 10 d0).ll)]).bindR fun r2 =>
 if 84 = 84 ∧ 0 ≤ (v1.getD 2 d0).ii ∧ (v1.getD 2 d0).ii < (((v1.getD 1 d0).ll).length : Int) then
 .norm [.sl ((v1.getD 0 d0).ll), .sl (((v1.getD 1 d0).ll).set (((v1.getD 2 d0).ii).toNat) (setRunD (((v1.getD 1 d0).ll).getD (((v1.getD 2 d0).ii).toNat) []) 0 [DC.i ((r2.getD 0 d0).ii), DC.b ((r2.getD 1 d0).bb), DC.s ((r2.getD 2 d0).ss), DC.s ((r2.getD 3 d0).ss), DC.sl ((r2.getD 4 d0).ll), DC.sl ((r2.getD 5 d0).ll), DC.sl ((r2.getD 6 d0).ll), DC.sl ((r2.getD 7 d0).ll), DC.sl ((r2.getD 8 d0).ll), DC.b ((r2.getD 9 d0).bb), DC.sl ((r2.getD 10 d0).ll)])), .i ((v1.getD 2 d0).ii)]
 else
 .fail
 else
 .fail) 1 fun v3 =>
 .norm [.sl ((v3.getD 0 d0).ll), .sl ((v3.getD 1 d0).ll), .i (IntKind.i64.wrap ((v3.getD 2 d0).ii + (1 : Int)))]
 else
 .ex 0 [.sl ((v1.getD 1 d0).ll)]
noncomputable def E_laws_toDefS (a : List DC) : Out :=
 if 0 ≤ (((a.getD 0 d0).ll).length : Int) ∧ (((a.getD 0 d0).ll).length : Int) < (LIM : Int) ∧ (((a.getD 0 d0).ll).length : Int) = (((a.getD 0 d0).ll).length : Int) ∧ 200 ≤ 1024 ∧ 0 < 11 ∧ dp 84 = false then
 Out.andThenB (Loop E_laws_toDefSL1 [.sl ((a.getD 0 d0).ll), .sl (List.replicate (((a.getD 0 d0).ll).length : Int).toNat [DC.i 0, DC.b false, DC.s [], DC.s [], DC.sl [], DC.sl [], DC.sl [], DC.sl [], DC.sl [], DC.b false, DC.sl []]), .i (0 : Int)]) 0 fun v4 =>
 .ret [.sl ((v4.getD 0 d0).ll)]
 else
 .fail
theorem eq_laws_toDefS a : r_laws_toDefS a = E_laws_toDefS a := (Run_eq cfg 19 _ a).trans (by kernel_rfl)
noncomputable def E_laws_toRootSL1 : List DC → Out := fun v1 =>
 if (decide ((v1.getD 2 d0).ii < (((v1.getD 0 d0).ll).length : Int))) = true then
 Out.andThenB (if 112 = 112 ∧ 0 ≤ (v1.getD 2 d0).ii ∧ (v1.getD 2 d0).ii < (((v1.getD 0 d0).ll).length : Int) then
 (r_laws_toRoot [.i (((((v1.getD 0 d0).ll).getD ((v1.getD 2 d0).ii).toNat []).getD 0 d0).ii), .s (((((v1.getD 0 d0).ll).getD ((v1.getD 2 d0).ii).toNat []).getD 1 d0).ss)]).bindR fun r2 =>
 if 109 = 109 ∧ 0 ≤ (v1.getD 2 d0).ii ∧ (v1.getD 2 d0).ii < (((v1.getD 1 d0).ll).length : Int) then
 .norm [.sl ((v1.getD 0 d0).ll), .sl (((v1.getD 1 d0).ll).set (((v1.getD 2 d0).ii).toNat) (setRunD (((v1.getD 1 d0).ll).getD (((v1.getD 2 d0).ii).toNat) []) 0 [DC.i ((r2.getD 0 d0).ii), DC.s ((r2.getD 1 d0).ss)])), .i ((v1.getD 2 d0).ii)]
 else
 .fail
 else
 .fail) 1 fun v3 =>
 .norm [.sl ((v3.getD 0 d0).ll), .sl ((v3.getD 1 d0).ll), .i (IntKind.i64.wrap ((v3.getD 2 d0).ii + (1 : Int)))]
 else
 .ex 0 [.sl ((v1.getD 1 d0).ll)]
noncomputable def E_laws_toRootS (a : List DC) : Out :=
 if 0 ≤ (((a.getD 0 d0).ll).length : Int) ∧ (((a.getD 0 d0).ll).length : Int) < (LIM : Int) ∧ (((a.getD 0 d0).ll).length : Int) = (((a.getD 0 d0).ll).length : Int) ∧ 24 ≤ 1024 ∧ 0 < 2 ∧ dp 109 = false then
 Out.andThenB (Loop E_laws_toRootSL1 [.sl ((a.getD 0 d0).ll), .sl (List.replicate (((a.getD 0 d0).ll).length : Int).toNat [DC.i 0, DC.s []]), .i (0 : Int)]) 0 fun v4 =>
 .ret [.sl ((v4.getD 0 d0).ll)]
 else
 .fail
theorem eq_laws_toRootS a : r_laws_toRootS a = E_laws_toRootS a := (Run_eq cfg 40 _ a).trans (by kernel_rfl)
noncomputable def E_spec_l18FieldL1 : List DC → Out := fun v5 =>
 if (decide ((v5.getD 2 d0).ii < (((v5.getD 1 d0).ll).length : Int))) = true then
 Out.andThenB (if 32 = 32 ∧ 0 ≤ (v5.getD 2 d0).ii ∧ (v5.getD 2 d0).ii < (((v5.getD 1 d0).ll).length : Int) then
 if (((((v5.getD 1 d0).ll).getD ((v5.getD 2 d0).ii).toNat []).getD 0 d0).ss == (v5.getD 0 d0).ss) = true then
 if 32 = 32 ∧ 0 ≤ (v5.getD 2 d0).ii ∧ (v5.getD 2 d0).ii < (((v5.getD 1 d0).ll).length : Int) then
 .ret [.s (((((v5.getD 1 d0).ll).getD ((v5.getD 2 d0).ii).toNat []).getD 0 d0).ss), .s (((((v5.getD 1 d0).ll).getD ((v5.getD 2 d0).ii).toNat []).getD 1 d0).ss), .sl (((((v5.getD 1 d0).ll).getD ((v5.getD 2 d0).ii).toNat []).getD 2 d0).ll), .s (((((v5.getD 1 d0).ll).getD ((v5.getD 2 d0).ii).toNat []).getD 3 d0).ss), .s (((((v5.getD 1 d0).ll).getD ((v5.getD 2 d0).ii).toNat []).getD 4 d0).ss), .sl (((((v5.getD 1 d0).ll).getD ((v5.getD 2 d0).ii).toNat []).getD 5 d0).ll), .b true]
 else
 .fail
 else
 .norm [.s ((v5.getD 0 d0).ss), .sl ((v5.getD 1 d0).ll), .i ((v5.getD 2 d0).ii), .s ((v5.getD 3 d0).ss), .s ((v5.getD 4 d0).ss), .s ((v5.getD 5 d0).ss), .s ((v5.getD 6 d0).ss)]
 else
 .fail) 1 fun v6 =>
 .norm [.s ((v6.getD 0 d0).ss), .sl ((v6.getD 1 d0).ll), .i (IntKind.i64.wrap ((v6.getD 2 d0).ii + (1 : Int))), .s ((v6.getD 3 d0).ss), .s ((v6.getD 4 d0).ss), .s ((v6.getD 5 d0).ss), .s ((v6.getD 6 d0).ss)]
 else
 .ex 0 [.s ((v5.getD 3 d0).ss), .s ((v5.getD 4 d0).ss), .s ((v5.getD 5 d0).ss), .s ((v5.getD 6 d0).ss)]
noncomputable def E_spec_l18Field (a : List DC) : Out :=
 Out.andThen (if ((a.getD 4 d0).ss == ([95, 95, 116, 121, 112, 101, 110, 97, 109, 101] : List UInt8)) = true then
 (r_spec_IsComposite [.sl ((a.getD 0 d0).ll), .sl ((a.getD 1 d0).ll), .sl ((a.getD 2 d0).ll), .s ((a.getD 3 d0).ss)]).bindR fun r1 =>
 .norm [.s ((a.getD 3 d0).ss), .s ((a.getD 4 d0).ss), .b ((r1.getD 0 d0).bb), .sl ((a.getD 0 d0).ll), .sl ((a.getD 1 d0).ll), .sl ((a.getD 2 d0).ll), .s [], .s [], .s [], .s []]
 else
 .norm [.s ((a.getD 3 d0).ss), .s ((a.getD 4 d0).ss), .b false, .sl ((a.getD 0 d0).ll), .sl ((a.getD 1 d0).ll), .sl ((a.getD 2 d0).ll), .s [], .s [], .s [], .s []]) fun v2 =>
 if (v2.getD 2 d0).bb = true then
 .ret [.s ((v2.getD 1 d0).ss), .s [], .sl [], .s ([83, 116, 114, 105, 110, 103] : List UInt8), .s ([33] : List UInt8), .sl [], .b true]
 else
 (r_spec_TypeAt [.sl ((v2.getD 3 d0).ll), .sl ((v2.getD 4 d0).ll), .sl ((v2.getD 5 d0).ll), .s ((v2.getD 0 d0).ss)]).bindR fun r3 =>
 Out.andThen (if (decide ((r3.getD 0 d0).ii < (0 : Int))) = true then
 .norm [.s ((v2.getD 1 d0).ss), .i ((r3.getD 0 d0).ii), .b true, .sl ((v2.getD 3 d0).ll), .sl ((v2.getD 4 d0).ll), .sl ((v2.getD 5 d0).ll), .s ((v2.getD 6 d0).ss), .s ((v2.getD 7 d0).ss), .s ((v2.getD 8 d0).ss), .s ((v2.getD 9 d0).ss)]
 else
 if 84 = 84 ∧ 0 ≤ (r3.getD 0 d0).ii ∧ (r3.getD 0 d0).ii < (((v2.getD 3 d0).ll).length : Int) then
 if (((((v2.getD 3 d0).ll).getD ((r3.getD 0 d0).ii).toNat []).getD 0 d0).ii != (2 : Int)) = true then
 if 84 = 84 ∧ 0 ≤ (r3.getD 0 d0).ii ∧ (r3.getD 0 d0).ii < (((v2.getD 3 d0).ll).length : Int) then
 .norm [.s ((v2.getD 1 d0).ss), .i ((r3.getD 0 d0).ii), .b (((((v2.getD 3 d0).ll).getD ((r3.getD 0 d0).ii).toNat []).getD 0 d0).ii != (3 : Int)), .sl ((v2.getD 3 d0).ll), .sl ((v2.getD 4 d0).ll), .sl ((v2.getD 5 d0).ll), .s ((v2.getD 6 d0).ss), .s ((v2.getD 7 d0).ss), .s ((v2.getD 8 d0).ss), .s ((v2.getD 9 d0).ss)]
 else
 .fail
 else
 .norm [.s ((v2.getD 1 d0).ss), .i ((r3.getD 0 d0).ii), .b false, .sl ((v2.getD 3 d0).ll), .sl ((v2.getD 4 d0).ll), .sl ((v2.getD 5 d0).ll), .s ((v2.getD 6 d0).ss), .s ((v2.getD 7 d0).ss), .s ((v2.getD 8 d0).ss), .s ((v2.getD 9 d0).ss)]
 else
 .fail) fun v4 =>
 if (v4.getD 2 d0).bb = true then
 .ret [.s [], .s [], .sl [], .s [], .s [], .sl [], .b false]
 else
 if 84 = 84 ∧ 0 ≤ (v4.getD 1 d0).ii ∧ (v4.getD 1 d0).ii < (((v4.getD 3 d0).ll).length : Int) then
 Out.andThenB (Loop E_spec_l18FieldL1 [.s ((v4.getD 0 d0).ss), .sl (((((v4.getD 3 d0).ll).getD ((v4.getD 1 d0).ii).toNat []).getD 5 d0).ll), .i (0 : Int), .s ((v4.getD 6 d0).ss), .s ((v4.getD 7 d0).ss), .s ((v4.getD 8 d0).ss), .s ((v4.getD 9 d0).ss)]) 0 fun v7 =>
 .ret [.s [], .s [], .sl [], .s [], .s [], .sl [], .b false]
 else
 .fail
theorem eq_spec_l18Field a : r_spec_l18Field a = E_spec_l18Field a := (Run_eq cfg 38 _ a).trans (by kernel_rfl)
noncomputable def E_spec_l13CopyFieldsL1 : List DC → Out := fun v1 =>
 if (decide ((v1.getD 2 d0).ii < (((v1.getD 0 d0).ll).length : Int))) = true then
 Out.andThenB (if 32 = 32 ∧ 0 ≤ (v1.getD 2 d0).ii ∧ (v1.getD 2 d0).ii < (((v1.getD 0 d0).ll).length : Int) then
 (r_spec_l13CopyIns [.sl (((((v1.getD 0 d0).ll).getD ((v1.getD 2 d0).ii).toNat []).getD 2 d0).ll)]).bindR fun r2 =>
 (r_spec_l10Dirs [.sl (((((v1.getD 0 d0).ll).getD ((v1.getD 2 d0).ii).toNat []).getD 5 d0).ll)]).bindR fun r3 =>
 if ((v1.getD 1 d0).ll).length + [[DC.s (((((v1.getD 0 d0).ll).getD ((v1.getD 2 d0).ii).toNat []).getD 0 d0).ss), DC.s (((((v1.getD 0 d0).ll).getD ((v1.getD 2 d0).ii).toNat []).getD 1 d0).ss), DC.sl ((r2.getD 0 d0).ll), DC.s (((((v1.getD 0 d0).ll).getD ((v1.getD 2 d0).ii).toNat []).getD 3 d0).ss), DC.s (((((v1.getD 0 d0).ll).getD ((v1.getD 2 d0).ii).toNat []).getD 4 d0).ss), DC.sl ((r3.getD 0 d0).ll)]].length < LIM ∧ 63 = 63 then
 .norm [.sl ((v1.getD 0 d0).ll), .sl (((v1.getD 1 d0).ll) ++ [[DC.s (((((v1.getD 0 d0).ll).getD ((v1.getD 2 d0).ii).toNat []).getD 0 d0).ss), DC.s (((((v1.getD 0 d0).ll).getD ((v1.getD 2 d0).ii).toNat []).getD 1 d0).ss), DC.sl ((r2.getD 0 d0).ll), DC.s (((((v1.getD 0 d0).ll).getD ((v1.getD 2 d0).ii).toNat []).getD 3 d0).ss), DC.s (((((v1.getD 0 d0).ll).getD ((v1.getD 2 d0).ii).toNat []).getD 4 d0).ss), DC.sl ((r3.getD 0 d0).ll)]]), .i ((v1.getD 2 d0).ii)]
 else
 .fail
 else
 .fail) 1 fun v4 =>
 .norm [.sl ((v4.getD 0 d0).ll), .sl ((v4.getD 1 d0).ll), .i (IntKind.i64.wrap ((v4.getD 2 d0).ii + (1 : Int)))]
 else
 .ex 0 [.sl ((v1.getD 1 d0).ll)]
noncomputable def E_spec_l13CopyFields (a : List DC) : Out :=
 Out.andThenB (Loop E_spec_l13CopyFieldsL1 [.sl ((a.getD 0 d0).ll), .sl [], .i (0 : Int)]) 0 fun v5 =>
 .ret [.sl ((v5.getD 0 d0).ll)]
theorem eq_spec_l13CopyFields a : r_spec_l13CopyFields a = E_spec_l13CopyFields a := (Run_eq cfg 39 _ a).trans (by kernel_rfl)
noncomputable def E_impl_fieldDef (a : List DC) : Out :=
 Out.andThen (if ((a.getD 4 d0).ss == ([95, 95, 116, 121, 112, 101, 110, 97, 109, 101] : List UInt8)) = true then
 (r_impl_IsComposite [.sl ((a.getD 0 d0).ll), .sl ((a.getD 1 d0).ll), .sl ((a.getD 2 d0).ll), .s ((a.getD 3 d0).ss)]).bindR fun r1 =>
 .norm [.s ((a.getD 3 d0).ss), .s ((a.getD 4 d0).ss), .b ((r1.getD 0 d0).bb), .sl ((a.getD 0 d0).ll), .sl ((a.getD 1 d0).ll), .sl ((a.getD 2 d0).ll), .s [], .s [], .s [], .s []]
 else
 .norm [.s ((a.getD 3 d0).ss), .s ((a.getD 4 d0).ss), .b false, .sl ((a.getD 0 d0).ll), .sl ((a.getD 1 d0).ll), .sl ((a.getD 2 d0).ll), .s [], .s [], .s [], .s []]) fun v2 =>
 if (v2.getD 2 d0).bb = true then
 .ret [.s ([95, 95, 116, 121, 112, 101, 110, 97, 109, 101] : List UInt8), .s [], .sl [], .s ([83, 116, 114, 105, 110, 103] : List UInt8), .s ([33] : List UInt8), .sl [], .b true]
 else
 (r_impl_typeDef [.sl ((v2.getD 3 d0).ll), .sl ((v2.getD 4 d0).ll), .sl ((v2.getD 5 d0).ll), .s ((v2.getD 0 d0).ss)]).bindR fun r3 =>
 Out.andThen (if ((r3.getD 0 d0).ii != (2 : Int)) = true then
 .norm [.s ((v2.getD 1 d0).ss), .b ((r3.getD 0 d0).ii != (3 : Int)), .s ((v2.getD 6 d0).ss), .s ((v2.getD 7 d0).ss), .s ((v2.getD 8 d0).ss), .s ((v2.getD 9 d0).ss), .i ((r3.getD 0 d0).ii), .b ((r3.getD 1 d0).bb), .s ((r3.getD 2 d0).ss), .s ((r3.getD 3 d0).ss), .sl ((r3.getD 4 d0).ll), .sl ((r3.getD 5 d0).ll), .sl ((r3.getD 6 d0).ll), .sl ((r3.getD 7 d0).ll), .sl ((r3.getD 8 d0).ll), .b ((r3.getD 9 d0).bb), .sl ((r3.getD 10 d0).ll)]
 else
 .norm [.s ((v2.getD 1 d0).ss), .b false, .s ((v2.getD 6 d0).ss), .s ((v2.getD 7 d0).ss), .s ((v2.getD 8 d0).ss), .s ((v2.getD 9 d0).ss), .i ((r3.getD 0 d0).ii), .b ((r3.getD 1 d0).bb), .s ((r3.getD 2 d0).ss), .s ((r3.getD 3 d0).ss), .sl ((r3.getD 4 d0).ll), .sl ((r3.getD 5 d0).ll), .sl ((r3.getD 6 d0).ll), .sl ((r3.getD 7 d0).ll), .sl ((r3.getD 8 d0).ll), .b ((r3.getD 9 d0).bb), .sl ((r3.getD 10 d0).ll)]) fun v4 =>
 if (v4.getD 1 d0).bb = true then
 .ret [.s [], .s [], .sl [], .s [], .s [], .sl [], .b false]
 else
 (r_impl_fieldOf [.i ((v4.getD 6 d0).ii), .b ((v4.getD 7 d0).bb), .s ((v4.getD 8 d0).ss), .s ((v4.getD 9 d0).ss), .sl ((v4.getD 10 d0).ll), .sl ((v4.getD 11 d0).ll), .sl ((v4.getD 12 d0).ll), .sl ((v4.getD 13 d0).ll), .sl ((v4.getD 14 d0).ll), .b ((v4.getD 15 d0).bb), .sl ((v4.getD 16 d0).ll), .s ((v4.getD 0 d0).ss)]).bindR fun r5 =>
 .ret [.s ((r5.getD 0 d0).ss), .s ((r5.getD 1 d0).ss), .sl ((r5.getD 2 d0).ll), .s ((r5.getD 3 d0).ss), .s ((r5.getD 4 d0).ss), .sl ((r5.getD 5 d0).ll), .b ((r5.getD 6 d0).bb)]
theorem eq_impl_fieldDef a : r_impl_fieldDef a = E_impl_fieldDef a := (Run_eq cfg 41 _ a).trans (by kernel_rfl)
noncomputable def E_impl_cloneFieldsL1 : List DC → Out := fun v5 =>
 if (decide ((v5.getD 3 d0).ii < (v5.getD 2 d0).ii)) = true then
 Out.andThenB (if 32 = 32 ∧ 0 ≤ (v5.getD 3 d0).ii ∧ (v5.getD 3 d0).ii < (((v5.getD 1 d0).ll).length : Int) then
 (r_impl_cloneIns [.sl (((((v5.getD 1 d0).ll).getD ((v5.getD 3 d0).ii).toNat []).getD 2 d0).ll)]).bindR fun r6 =>
 (r_impl_cloneDirs [.sl (((((v5.getD 1 d0).ll).getD ((v5.getD 3 d0).ii).toNat []).getD 5 d0).ll)]).bindR fun r7 =>
 if ((v5.getD 0 d0).ll).length + [[DC.s (((((v5.getD 1 d0).ll).getD ((v5.getD 3 d0).ii).toNat []).getD 0 d0).ss), DC.s (((((v5.getD 1 d0).ll).getD ((v5.getD 3 d0).ii).toNat []).getD 1 d0).ss), DC.sl ((r6.getD 0 d0).ll), DC.s (((((v5.getD 1 d0).ll).getD ((v5.getD 3 d0).ii).toNat []).getD 3 d0).ss), DC.s (((((v5.getD 1 d0).ll).getD ((v5.getD 3 d0).ii).toNat []).getD 4 d0).ss), DC.sl ((r7.getD 0 d0).ll)]].length < LIM ∧ 63 = 63 then
 .norm [.sl (((v5.getD 0 d0).ll) ++ [[DC.s (((((v5.getD 1 d0).ll).getD ((v5.getD 3 d0).ii).toNat []).getD 0 d0).ss), DC.s (((((v5.getD 1 d0).ll).getD ((v5.getD 3 d0).ii).toNat []).getD 1 d0).ss), DC.sl ((r6.getD 0 d0).ll), DC.s (((((v5.getD 1 d0).ll).getD ((v5.getD 3 d0).ii).toNat []).getD 3 d0).ss), DC.s (((((v5.getD 1 d0).ll).getD ((v5.getD 3 d0).ii).toNat []).getD 4 d0).ss), DC.sl ((r7.getD 0 d0).ll)]]), .sl ((v5.getD 1 d0).ll), .i ((v5.getD 2 d0).ii), .i ((v5.getD 3 d0).ii)]
 else
 .fail
 else
 .fail) 1 fun v8 =>
 .norm [.sl ((v8.getD 0 d0).ll), .sl ((v8.getD 1 d0).ll), .i ((v8.getD 2 d0).ii), .i (IntKind.i64.wrap ((v8.getD 3 d0).ii + (1 : Int)))]
 else
 .ex 0 [.sl ((v5.getD 0 d0).ll)]
noncomputable def E_impl_cloneFields (a : List DC) : Out :=
 Out.andThenB (Loop E_impl_cloneFieldsL1 [.sl [], .sl ((a.getD 0 d0).ll), .i (((a.getD 0 d0).ll).length : Int), .i (0 : Int)]) 0 fun v9 =>
 .ret [.sl ((v9.getD 0 d0).ll)]
theorem eq_impl_cloneFields a : r_impl_cloneFields a = E_impl_cloneFields a := (Run_eq cfg 42 _ a).trans (by kernel_rfl)
noncomputable def E_laws_eqInDefSL1 : List DC → Out := fun v1 =>
 if (decide ((v1.getD 2 d0).ii < (((v1.getD 0 d0).ll).length : Int))) = true then
 Out.andThenB (if 123 = 123 ∧ 0 ≤ (v1.getD 2 d0).ii ∧ (v1.getD 2 d0).ii < (((v1.getD 0 d0).ll).length : Int) then
 if 123 = 123 ∧ 0 ≤ (v1.getD 2 d0).ii ∧ (v1.getD 2 d0).ii < (((v1.getD 1 d0).ll).length : Int) then
 (r_laws_eqInDef [.s (((((v1.getD 0 d0).ll).getD ((v1.getD 2 d0).ii).toNat []).getD 0 d0).ss), .s (((((v1.getD 0 d0).ll).getD ((v1.getD 2 d0).ii).toNat []).getD 1 d0).ss), .s (((((v1.getD 0 d0).ll).getD ((v1.getD 2 d0).ii).toNat []).getD 2 d0).ss), .s (((((v1.getD 0 d0).ll).getD ((v1.getD 2 d0).ii).toNat []).getD 3 d0).ss), .b (((((v1.getD 0 d0).ll).getD ((v1.getD 2 d0).ii).toNat []).getD 4 d0).bb), .i (((((v1.getD 0 d0).ll).getD ((v1.getD 2 d0).ii).toNat []).getD 5 d0).ii), .s (((((v1.getD 0 d0).ll).getD ((v1.getD 2 d0).ii).toNat []).getD 6 d0).ss), .sl (((((v1.getD 0 d0).ll).getD ((v1.getD 2 d0).ii).toNat []).getD 7 d0).ll), .sl (((((v1.getD 0 d0).ll).getD ((v1.getD 2 d0).ii).toNat []).getD 8 d0).ll), .sl (((((v1.getD 0 d0).ll).getD ((v1.getD 2 d0).ii).toNat []).getD 9 d0).ll), .s (((((v1.getD 1 d0).ll).getD ((v1.getD 2 d0).ii).toNat []).getD 0 d0).ss), .s (((((v1.getD 1 d0).ll).getD ((v1.getD 2 d0).ii).toNat []).getD 1 d0).ss), .s (((((v1.getD 1 d0).ll).getD ((v1.getD 2 d0).ii).toNat []).getD 2 d0).ss), .s (((((v1.getD 1 d0).ll).getD ((v1.getD 2 d0).ii).toNat []).getD 3 d0).ss), .b (((((v1.getD 1 d0).ll).getD ((v1.getD 2 d0).ii).toNat []).getD 4 d0).bb), .i (((((v1.getD 1 d0).ll).getD ((v1.getD 2 d0).ii).toNat []).getD 5 d0).ii), .s (((((v1.getD 1 d0).ll).getD ((v1.getD 2 d0).ii).toNat []).getD 6 d0).ss), .sl (((((v1.getD 1 d0).ll).getD ((v1.getD 2 d0).ii).toNat []).getD 7 d0).ll), .sl (((((v1.getD 1 d0).ll).getD ((v1.getD 2 d0).ii).toNat []).getD 8 d0).ll), .sl (((((v1.getD 1 d0).ll).getD ((v1.getD 2 d0).ii).toNat []).getD 9 d0).ll)]).bindR fun r2 =>
 if (!((r2.getD 0 d0).bb)) = true then
 .ret [.b false]
 else
 .norm [.sl ((v1.getD 0 d0).ll), .sl ((v1.getD 1 d0).ll), .i ((v1.getD 2 d0).ii)]
 else
 .fail
 else
 .fail) 1 fun v3 =>
 .norm [.sl ((v3.getD 0 d0).ll), .sl ((v3.getD 1 d0).ll), .i (IntKind.i64.wrap ((v3.getD 2 d0).ii + (1 : Int)))]
 else
 .ex 0 []
noncomputable def E_laws_eqInDefS (a : List DC) : Out :=
 if ((((a.getD 0 d0).ll).length : Int) != (((a.getD 1 d0).ll).length : Int)) = true then
 .ret [.b false]
 else
 Out.andThenB (Loop E_laws_eqInDefSL1 [.sl ((a.getD 0 d0).ll), .sl ((a.getD 1 d0).ll), .i (0 : Int)]) 0 fun v4 =>
 .ret [.b true]
theorem eq_laws_eqInDefS a : r_laws_eqInDefS a = E_laws_eqInDefS a := (Run_eq cfg 43 _ a).trans (by kernel_rfl)
noncomputable def E_laws_eqType (a : List DC) : Out :=
 if (!((a.getD 0 d0).ss == (a.getD 2 d0).ss)) = true then
 .ret [.b false]
 else
 if (!((a.getD 1 d0).ss == (a.getD 3 d0).ss)) = true then
 .ret [.b false]
 else
 .ret [.b true]
theorem eq_laws_eqType a : r_laws_eqType a = E_laws_eqType a := (Run_eq cfg 44 _ a).trans (by kernel_rfl)
noncomputable def E_laws_eqDirSL1 : List DC → Out := fun v1 =>
 if (decide ((v1.getD 2 d0).ii < (((v1.getD 0 d0).ll).length : Int))) = true then
 Out.andThenB (if 127 = 127 ∧ 0 ≤ (v1.getD 2 d0).ii ∧ (v1.getD 2 d0).ii < (((v1.getD 0 d0).ll).length : Int) then
 if 127 = 127 ∧ 0 ≤ (v1.getD 2 d0).ii ∧ (v1.getD 2 d0).ii < (((v1.getD 1 d0).ll).length : Int) then
 (r_laws_eqDir [.s (((((v1.getD 0 d0).ll).getD ((v1.getD 2 d0).ii).toNat []).getD 0 d0).ss), .sl (((((v1.getD 0 d0).ll).getD ((v1.getD 2 d0).ii).toNat []).getD 1 d0).ll), .s (((((v1.getD 1 d0).ll).getD ((v1.getD 2 d0).ii).toNat []).getD 0 d0).ss), .sl (((((v1.getD 1 d0).ll).getD ((v1.getD 2 d0).ii).toNat []).getD 1 d0).ll)]).bindR fun r2 =>
 if (!((r2.getD 0 d0).bb)) = true then
 .ret [.b false]
 else
 .norm [.sl ((v1.getD 0 d0).ll), .sl ((v1.getD 1 d0).ll), .i ((v1.getD 2 d0).ii)]
 else
 .fail
 else
 .fail) 1 fun v3 =>
 .norm [.sl ((v3.getD 0 d0).ll), .sl ((v3.getD 1 d0).ll), .i (IntKind.i64.wrap ((v3.getD 2 d0).ii + (1 : Int)))]
 else
 .ex 0 []
noncomputable def E_laws_eqDirS (a : List DC) : Out :=
 if ((((a.getD 0 d0).ll).length : Int) != (((a.getD 1 d0).ll).length : Int)) = true then
 .ret [.b false]
 else
 Out.andThenB (Loop E_laws_eqDirSL1 [.sl ((a.getD 0 d0).ll), .sl ((a.getD 1 d0).ll), .i (0 : Int)]) 0 fun v4 =>
 .ret [.b true]
theorem eq_laws_eqDirS a : r_laws_eqDirS a = E_laws_eqDirS a := (Run_eq cfg 45 _ a).trans (by kernel_rfl)
noncomputable def E_laws_eqDefSL1 : List DC → Out := fun v1 =>
 if (decide ((v1.getD 2 d0).ii < (((v1.getD 0 d0).ll).length : Int))) = true then
 Out.andThenB (if 84 = 84 ∧ 0 ≤ (v1.getD 2 d0).ii ∧ (v1.getD 2 d0).ii < (((v1.getD 0 d0).ll).length : Int) then
 if 84 = 84 ∧ 0 ≤ (v1.getD 2 d0).ii ∧ (v1.getD 2 d0).ii < (((v1.getD 1 d0).ll).length : Int) then
 (r_laws_eqDef [.i (((((v1.getD 0 d0).ll).getD ((v1.getD 2 d0).ii).toNat []).getD 0 d0).ii), .b (((((v1.getD 0 d0).ll).getD ((v1.getD 2 d0).ii).toNat []).getD 1 d0).bb), .s (((((v1.getD 0 d0).ll).getD ((v1.getD 2 d0).ii).toNat []).getD 2 d0).ss), .s (((((v1.getD 0 d0).ll).getD ((v1.getD 2 d0).ii).toNat []).getD 3 d0).ss), .sl (((((v1.getD 0 d0).ll).getD ((v1.getD 2 d0).ii).toNat []).getD 4 d0).ll), .sl (((((v1.getD 0 d0).ll).getD ((v1.getD 2 d0).ii).toNat []).getD 5 d0).ll), .sl (((((v1.getD 0 d0).ll).getD ((v1.getD 2 d0).ii).toNat []).getD 6 d0).ll), .sl (((((v1.getD 0 d0).ll).getD ((v1.getD 2 d0).ii).toNat []).getD 7 d0).ll), .sl (((((v1.getD 0 d0).ll).getD ((v1.getD 2 d0).ii).toNat []).getD 8 d0).ll), .b (((((v1.getD 0 d0).ll).getD ((v1.getD 2 d0).ii).toNat []).getD 9 d0).bb), .sl (((((v1.getD 0 d0).ll).getD ((v1.getD 2 d0).ii).toNat []).getD 10 d0).ll), .i (((((v1.getD 1 d0).ll).getD ((v1.getD 2 d0).ii).toNat []).getD 0 d0).ii), .b (((((v1.getD 1 d0).ll).getD ((v1.getD 2 d0).ii).toNat []).getD 1 d0).bb), .s (((((v1.getD 1 d0).ll).getD ((v1.getD 2 d0).ii).toNat []).getD 2 d0).ss), .s (((((v1.getD 1 d0).ll).getD ((v1.getD 2 d0).ii).toNat []).getD 3 d0).ss), .sl (((((v1.getD 1 d0).ll).getD ((v1.getD 2 d0).ii).toNat []).getD 4 d0).ll), .sl (((((v1.getD 1 d0).ll).getD ((v1.getD 2 d0).ii).toNat []).getD 5 d0).ll), .sl (((((v1.getD 1 d0).ll).getD ((v1.getD 2 d0).ii).toNat []).getD 6 d0).ll), .sl (((((v1.getD 1 d0).ll).getD ((v1.getD 2 d0).ii).toNat []).getD 7 d0).ll), .sl (((((v1.getD 1 d0).ll).getD ((v1.getD 2 d0).ii).toNat []).getD 8 d0).ll), .b (((((v1.getD 1 d0).ll).getD ((v1.getD 2 d0).ii).toNat []).getD 9 d0).bb), .sl (((((v1.getD 1 d0).ll).getD ((v1.getD 2 d0).ii).toNat []).getD 10 d0).ll)]).bindR fun r2 =>
 if (!((r2.getD 0 d0).bb)) = true then
 .ret [.b false]
 else
 .norm [.sl ((v1.getD 0 d0).ll), .sl ((v1.getD 1 d0).ll), .i ((v1.getD 2 d0).ii)]
 else
 .fail
 else
 .fail) 1 fun v3 =>
 .norm [.sl ((v3.getD 0 d0).ll), .sl ((v3.getD 1 d0).ll), .i (IntKind.i64.wrap ((v3.getD 2 d0).ii + (1 : Int)))]
 else
 .ex 0 []
noncomputable def E_laws_eqDefS (a : List DC) : Out :=
 if ((((a.getD 0 d0).ll).length : Int) != (((a.getD 1 d0).ll).length : Int)) = true then
 .ret [.b false]
 else
 Out.andThenB (Loop E_laws_eqDefSL1 [.sl ((a.getD 0 d0).ll), .sl ((a.getD 1 d0).ll), .i (0 : Int)]) 0 fun v4 =>
 .ret [.b true]
theorem eq_laws_eqDefS a : r_laws_eqDefS a = E_laws_eqDefS a := (Run_eq cfg 21 _ a).trans (by kernel_rfl)
noncomputable def E_laws_eqRootSL1 : List DC → Out := fun v1 =>
 if (decide ((v1.getD 2 d0).ii < (((v1.getD 0 d0).ll).length : Int))) = true then
 Out.andThenB (if 109 = 109 ∧ 0 ≤ (v1.getD 2 d0).ii ∧ (v1.getD 2 d0).ii < (((v1.getD 0 d0).ll).length : Int) then
 if 109 = 109 ∧ 0 ≤ (v1.getD 2 d0).ii ∧ (v1.getD 2 d0).ii < (((v1.getD 1 d0).ll).length : Int) then
 (r_laws_eqRoot [.i (((((v1.getD 0 d0).ll).getD ((v1.getD 2 d0).ii).toNat []).getD 0 d0).ii), .s (((((v1.getD 0 d0).ll).getD ((v1.getD 2 d0).ii).toNat []).getD 1 d0).ss), .i (((((v1.getD 1 d0).ll).getD ((v1.getD 2 d0).ii).toNat []).getD 0 d0).ii), .s (((((v1.getD 1 d0).ll).getD ((v1.getD 2 d0).ii).toNat []).getD 1 d0).ss)]).bindR fun r2 =>
 if (!((r2.getD 0 d0).bb)) = true then
 .ret [.b false]
 else
 .norm [.sl ((v1.getD 0 d0).ll), .sl ((v1.getD 1 d0).ll), .i ((v1.getD 2 d0).ii)]
 else
 .fail
 else
 .fail) 1 fun v3 =>
 .norm [.sl ((v3.getD 0 d0).ll), .sl ((v3.getD 1 d0).ll), .i (IntKind.i64.wrap ((v3.getD 2 d0).ii + (1 : Int)))]
 else
 .ex 0 []
noncomputable def E_laws_eqRootS (a : List DC) : Out :=
 if ((((a.getD 0 d0).ll).length : Int) != (((a.getD 1 d0).ll).length : Int)) = true then
 .ret [.b false]
 else
 Out.andThenB (Loop E_laws_eqRootSL1 [.sl ((a.getD 0 d0).ll), .sl ((a.getD 1 d0).ll), .i (0 : Int)]) 0 fun v4 =>
 .ret [.b true]
theorem eq_laws_eqRootS a : r_laws_eqRootS a = E_laws_eqRootS a := (Run_eq cfg 46 _ a).trans (by kernel_rfl)
noncomputable def E_laws_heldInDefSL1 : List DC → Out := fun v1 =>
 if (decide ((v1.getD 2 d0).ii < (((v1.getD 0 d0).ll).length : Int))) = true then
 Out.andThenB (if 123 = 123 ∧ 0 ≤ (v1.getD 2 d0).ii ∧ (v1.getD 2 d0).ii < (((v1.getD 0 d0).ll).length : Int) then
 (r_laws_markText [.i ((v1.getD 1 d0).ii)]).bindR fun r2 =>
 if (!(((((v1.getD 0 d0).ll).getD ((v1.getD 2 d0).ii).toNat []).getD 0 d0).ss == (r2.getD 0 d0).ss)) = true then
 .ret [.i (-1 : Int)]
 else
 if 123 = 123 ∧ 0 ≤ (v1.getD 2 d0).ii ∧ (v1.getD 2 d0).ii < (((v1.getD 0 d0).ll).length : Int) then
 (r_laws_markText [.i (IntKind.i64.wrap ((v1.getD 1 d0).ii + (1 : Int)))]).bindR fun r3 =>
 if (!(((((v1.getD 0 d0).ll).getD ((v1.getD 2 d0).ii).toNat []).getD 1 d0).ss == (r3.getD 0 d0).ss)) = true then
 .ret [.i (-1 : Int)]
 else
 if 123 = 123 ∧ 0 ≤ (v1.getD 2 d0).ii ∧ (v1.getD 2 d0).ii < (((v1.getD 0 d0).ll).length : Int) then
 (r_laws_markText [.i (IntKind.i64.wrap ((IntKind.i64.wrap ((v1.getD 1 d0).ii + (1 : Int))) + (1 : Int)))]).bindR fun r4 =>
 if (!(((((v1.getD 0 d0).ll).getD ((v1.getD 2 d0).ii).toNat []).getD 2 d0).ss == (r4.getD 0 d0).ss)) = true then
 .ret [.i (-1 : Int)]
 else
 if 123 = 123 ∧ 0 ≤ (v1.getD 2 d0).ii ∧ (v1.getD 2 d0).ii < (((v1.getD 0 d0).ll).length : Int) then
 (r_laws_markText [.i (IntKind.i64.wrap ((IntKind.i64.wrap ((IntKind.i64.wrap ((v1.getD 1 d0).ii + (1 : Int))) + (1 : Int))) + (1 : Int)))]).bindR fun r5 =>
 if (!(((((v1.getD 0 d0).ll).getD ((v1.getD 2 d0).ii).toNat []).getD 3 d0).ss == (r5.getD 0 d0).ss)) = true then
 .ret [.i (-1 : Int)]
 else
 if 123 = 123 ∧ 0 ≤ (v1.getD 2 d0).ii ∧ (v1.getD 2 d0).ii < (((v1.getD 0 d0).ll).length : Int) then
 if (3 : Int) = 0 then
 .fail
 else
 if (!(((((v1.getD 0 d0).ll).getD ((v1.getD 2 d0).ii).toNat []).getD 4 d0).bb == (((IntKind.i64.wrap ((IntKind.i64.wrap ((IntKind.i64.wrap ((IntKind.i64.wrap ((v1.getD 1 d0).ii + (1 : Int))) + (1 : Int))) + (1 : Int))) + (1 : Int))).tmod (3 : Int)) == (0 : Int)))) = true then
 .ret [.i (-1 : Int)]
 else
 if 123 = 123 ∧ 0 ≤ (v1.getD 2 d0).ii ∧ (v1.getD 2 d0).ii < (((v1.getD 0 d0).ll).length : Int) then
 if (((((v1.getD 0 d0).ll).getD ((v1.getD 2 d0).ii).toNat []).getD 5 d0).ii != (IntKind.i64.wrap ((IntKind.i64.wrap ((IntKind.i64.wrap ((IntKind.i64.wrap ((IntKind.i64.wrap ((v1.getD 1 d0).ii + (1 : Int))) + (1 : Int))) + (1 : Int))) + (1 : Int))) + (1 : Int)))) = true then
 .ret [.i (-1 : Int)]
 else
 if 123 = 123 ∧ 0 ≤ (v1.getD 2 d0).ii ∧ (v1.getD 2 d0).ii < (((v1.getD 0 d0).ll).length : Int) then
 (r_laws_markText [.i (IntKind.i64.wrap ((IntKind.i64.wrap ((IntKind.i64.wrap ((IntKind.i64.wrap ((IntKind.i64.wrap ((IntKind.i64.wrap ((v1.getD 1 d0).ii + (1 : Int))) + (1 : Int))) + (1 : Int))) + (1 : Int))) + (1 : Int))) + (1 : Int)))]).bindR fun r6 =>
 if (!(((((v1.getD 0 d0).ll).getD ((v1.getD 2 d0).ii).toNat []).getD 6 d0).ss == (r6.getD 0 d0).ss)) = true then
 .ret [.i (-1 : Int)]
 else
 if 123 = 123 ∧ 0 ≤ (v1.getD 2 d0).ii ∧ (v1.getD 2 d0).ii < (((v1.getD 0 d0).ll).length : Int) then
 (r_laws_heldValueS [.sl (((((v1.getD 0 d0).ll).getD ((v1.getD 2 d0).ii).toNat []).getD 7 d0).ll), .i (IntKind.i64.wrap ((IntKind.i64.wrap ((IntKind.i64.wrap ((IntKind.i64.wrap ((IntKind.i64.wrap ((IntKind.i64.wrap ((IntKind.i64.wrap ((v1.getD 1 d0).ii + (1 : Int))) + (1 : Int))) + (1 : Int))) + (1 : Int))) + (1 : Int))) + (1 : Int))) + (1 : Int)))]).bindR fun r7 =>
 if (decide ((r7.getD 0 d0).ii < (0 : Int))) = true then
 .ret [.i (-1 : Int)]
 else
 if 123 = 123 ∧ 0 ≤ (v1.getD 2 d0).ii ∧ (v1.getD 2 d0).ii < (((v1.getD 0 d0).ll).length : Int) then
 (r_laws_heldStringS [.sl (((((v1.getD 0 d0).ll).getD ((v1.getD 2 d0).ii).toNat []).getD 8 d0).ll), .i ((r7.getD 0 d0).ii)]).bindR fun r8 =>
 if (decide ((r8.getD 0 d0).ii < (0 : Int))) = true then
 .ret [.i (-1 : Int)]
 else
 if 123 = 123 ∧ 0 ≤ (v1.getD 2 d0).ii ∧ (v1.getD 2 d0).ii < (((v1.getD 0 d0).ll).length : Int) then
 (r_laws_heldDirS [.sl (((((v1.getD 0 d0).ll).getD ((v1.getD 2 d0).ii).toNat []).getD 9 d0).ll), .i ((r8.getD 0 d0).ii)]).bindR fun r9 =>
 if (decide ((r9.getD 0 d0).ii < (0 : Int))) = true then
 .ret [.i (-1 : Int)]
 else
 .norm [.sl ((v1.getD 0 d0).ll), .i ((r9.getD 0 d0).ii), .i ((v1.getD 2 d0).ii)]
 else
 .fail
 else
 .fail
 else
 .fail
 else
 .fail
 else
 .fail
 else
 .fail
 else
 .fail
 else
 .fail
 else
 .fail
 else
 .fail) 1 fun v10 =>
 .norm [.sl ((v10.getD 0 d0).ll), .i ((v10.getD 1 d0).ii), .i (IntKind.i64.wrap ((v10.getD 2 d0).ii + (1 : Int)))]
 else
 .ex 0 [.i ((v1.getD 1 d0).ii)]
noncomputable def E_laws_heldInDefS (a : List DC) : Out :=
 Out.andThenB (Loop E_laws_heldInDefSL1 [.sl ((a.getD 0 d0).ll), .i ((a.getD 1 d0).ii), .i (0 : Int)]) 0 fun v11 =>
 .ret [.i ((v11.getD 0 d0).ii)]
theorem eq_laws_heldInDefS a : r_laws_heldInDefS a = E_laws_heldInDefS a := (Run_eq cfg 50 _ a).trans (by kernel_rfl)
noncomputable def E_laws_heldDirSL1 : List DC → Out := fun v1 =>
 if (decide ((v1.getD 2 d0).ii < (((v1.getD 0 d0).ll).length : Int))) = true then
 Out.andThenB (if 127 = 127 ∧ 0 ≤ (v1.getD 2 d0).ii ∧ (v1.getD 2 d0).ii < (((v1.getD 0 d0).ll).length : Int) then
 (r_laws_markText [.i ((v1.getD 1 d0).ii)]).bindR fun r2 =>
 if (!(((((v1.getD 0 d0).ll).getD ((v1.getD 2 d0).ii).toNat []).getD 0 d0).ss == (r2.getD 0 d0).ss)) = true then
 .ret [.i (-1 : Int)]
 else
 if 127 = 127 ∧ 0 ≤ (v1.getD 2 d0).ii ∧ (v1.getD 2 d0).ii < (((v1.getD 0 d0).ll).length : Int) then
 (r_laws_heldArgS [.sl (((((v1.getD 0 d0).ll).getD ((v1.getD 2 d0).ii).toNat []).getD 1 d0).ll), .i (IntKind.i64.wrap ((v1.getD 1 d0).ii + (1 : Int)))]).bindR fun r3 =>
 if (decide ((r3.getD 0 d0).ii < (0 : Int))) = true then
 .ret [.i (-1 : Int)]
 else
 .norm [.sl ((v1.getD 0 d0).ll), .i ((r3.getD 0 d0).ii), .i ((v1.getD 2 d0).ii)]
 else
 .fail
 else
 .fail) 1 fun v4 =>
 .norm [.sl ((v4.getD 0 d0).ll), .i ((v4.getD 1 d0).ii), .i (IntKind.i64.wrap ((v4.getD 2 d0).ii + (1 : Int)))]
 else
 .ex 0 [.i ((v1.getD 1 d0).ii)]
noncomputable def E_laws_heldDirS (a : List DC) : Out :=
 Out.andThenB (Loop E_laws_heldDirSL1 [.sl ((a.getD 0 d0).ll), .i ((a.getD 1 d0).ii), .i (0 : Int)]) 0 fun v5 =>
 .ret [.i ((v5.getD 0 d0).ii)]
theorem eq_laws_heldDirS a : r_laws_heldDirS a = E_laws_heldDirS a := (Run_eq cfg 51 _ a).trans (by kernel_rfl)
noncomputable def E_laws_szDef (a : List DC) : Out :=
 if (decide ((IntKind.i64.wrap ((a.getD 11 d0).ii - (((a.getD 2 d0).ss).length : Int))) < (0 : Int))) = true then
 .ret [.i (-1 : Int)]
 else
 if (decide ((IntKind.i64.wrap ((IntKind.i64.wrap ((a.getD 11 d0).ii - (((a.getD 2 d0).ss).length : Int))) - (((a.getD 3 d0).ss).length : Int))) < (0 : Int))) = true then
 .ret [.i (-1 : Int)]
 else
 (r_laws_szStringS [.sl ((a.getD 4 d0).ll), .i (IntKind.i64.wrap ((IntKind.i64.wrap ((a.getD 11 d0).ii - (((a.getD 2 d0).ss).length : Int))) - (((a.getD 3 d0).ss).length : Int)))]).bindR fun r1 =>
 if (decide ((r1.getD 0 d0).ii < (0 : Int))) = true then
 .ret [.i (-1 : Int)]
 else
 (r_laws_szFieldDefS [.sl ((a.getD 5 d0).ll), .i ((r1.getD 0 d0).ii)]).bindR fun r2 =>
 if (decide ((r2.getD 0 d0).ii < (0 : Int))) = true then
 .ret [.i (-1 : Int)]
 else
 (r_laws_szInDefS [.sl ((a.getD 6 d0).ll), .i ((r2.getD 0 d0).ii)]).bindR fun r3 =>
 if (decide ((r3.getD 0 d0).ii < (0 : Int))) = true then
 .ret [.i (-1 : Int)]
 else
 (r_laws_szEnumDefS [.sl ((a.getD 7 d0).ll), .i ((r3.getD 0 d0).ii)]).bindR fun r4 =>
 if (decide ((r4.getD 0 d0).ii < (0 : Int))) = true then
 .ret [.i (-1 : Int)]
 else
 (r_laws_szRootS [.sl ((a.getD 8 d0).ll), .i ((r4.getD 0 d0).ii)]).bindR fun r5 =>
 if (decide ((r5.getD 0 d0).ii < (0 : Int))) = true then
 .ret [.i (-1 : Int)]
 else
 (r_laws_szDirS [.sl ((a.getD 10 d0).ll), .i ((r5.getD 0 d0).ii)]).bindR fun r6 =>
 if (decide ((r6.getD 0 d0).ii < (0 : Int))) = true then
 .ret [.i (-1 : Int)]
 else
 .ret [.i ((r6.getD 0 d0).ii)]
theorem eq_laws_szDef a : r_laws_szDef a = E_laws_szDef a := (Run_eq cfg 52 _ a).trans (by kernel_rfl)
noncomputable def E_laws_szRoot (a : List DC) : Out :=
 if (decide ((IntKind.i64.wrap ((a.getD 2 d0).ii - (((a.getD 1 d0).ss).length : Int))) < (0 : Int))) = true then
 .ret [.i (-1 : Int)]
 else
 .ret [.i (IntKind.i64.wrap ((a.getD 2 d0).ii - (((a.getD 1 d0).ss).length : Int)))]
theorem eq_laws_szRoot a : r_laws_szRoot a = E_laws_szRoot a := (Run_eq cfg 87 _ a).trans (by kernel_rfl)
noncomputable def E_laws_toDef (a : List DC) : Out :=
 (r_laws_toStringS [.sl ((a.getD 4 d0).ll)]).bindR fun r1 =>
 (r_laws_toFieldDefS [.sl ((a.getD 5 d0).ll)]).bindR fun r2 =>
 (r_laws_toInDefS [.sl ((a.getD 6 d0).ll)]).bindR fun r3 =>
 (r_laws_toEnumDefS [.sl ((a.getD 7 d0).ll)]).bindR fun r4 =>
 (r_laws_toRootS [.sl ((a.getD 8 d0).ll)]).bindR fun r5 =>
 (r_laws_toDirS [.sl ((a.getD 10 d0).ll)]).bindR fun r6 =>
 .ret [.i ((a.getD 0 d0).ii), .b ((a.getD 1 d0).bb), .s ((a.getD 2 d0).ss), .s ((a.getD 3 d0).ss), .sl ((r1.getD 0 d0).ll), .sl ((r2.getD 0 d0).ll), .sl ((r3.getD 0 d0).ll), .sl ((r4.getD 0 d0).ll), .sl ((r5.getD 0 d0).ll), .b ((a.getD 9 d0).bb), .sl ((r6.getD 0 d0).ll)]
theorem eq_laws_toDef a : r_laws_toDef a = E_laws_toDef a := (Run_eq cfg 57 _ a).trans (by kernel_rfl)
noncomputable def E_laws_toRoot (a : List DC) : Out :=
 .ret [.i ((a.getD 0 d0).ii), .s ((a.getD 1 d0).ss)]
theorem eq_laws_toRoot a : r_laws_toRoot a = E_laws_toRoot a := (Run_eq cfg 91 _ a).trans (by kernel_rfl)
noncomputable def E_spec_IsComposite (a : List DC) : Out :=
 (r_spec_KindOf [.sl ((a.getD 0 d0).ll), .sl ((a.getD 1 d0).ll), .sl ((a.getD 2 d0).ll), .s ((a.getD 3 d0).ss)]).bindR fun r1 =>
 Out.andThen (if ((r1.getD 0 d0).ii == (2 : Int)) = true then
 .norm [.b true]
 else
 if ((r1.getD 0 d0).ii == (3 : Int)) = true then
 .norm [.b true]
 else
 .norm [.b ((r1.getD 0 d0).ii == (4 : Int))]) fun v2 =>
 .ret [.b ((v2.getD 0 d0).bb)]
theorem eq_spec_IsComposite a : r_spec_IsComposite a = E_spec_IsComposite a := (Run_eq cfg 88 _ a).trans (by kernel_rfl)
noncomputable def E_spec_TypeAtL1 : List DC → Out := fun v1 =>
 Out.andThen (if (decide ((v1.getD 1 d0).ii < (((v1.getD 2 d0).ll).length : Int))) = true then
 .norm [.s ((v1.getD 0 d0).ss), .i ((v1.getD 1 d0).ii), .b (decide ((((v1.getD 2 d0).ll).length : Int) ≤ (60 : Int))), .sl ((v1.getD 2 d0).ll), .sl ((v1.getD 3 d0).ll), .sl ((v1.getD 4 d0).ll)]
 else
 .norm [.s ((v1.getD 0 d0).ss), .i ((v1.getD 1 d0).ii), .b false, .sl ((v1.getD 2 d0).ll), .sl ((v1.getD 3 d0).ll), .sl ((v1.getD 4 d0).ll)]) fun v2 =>
 if (v2.getD 2 d0).bb = true then
 Out.andThenB (if 84 = 84 ∧ 0 ≤ (v2.getD 1 d0).ii ∧ (v2.getD 1 d0).ii < (((v2.getD 3 d0).ll).length : Int) then
 if (((((v2.getD 3 d0).ll).getD ((v2.getD 1 d0).ii).toNat []).getD 3 d0).ss == (v2.getD 0 d0).ss) = true then
 .ret [.i ((v2.getD 1 d0).ii)]
 else
 .norm [.s ((v2.getD 0 d0).ss), .i ((v2.getD 1 d0).ii), .sl ((v2.getD 3 d0).ll), .sl ((v2.getD 4 d0).ll), .sl ((v2.getD 5 d0).ll)]
 else
 .fail) 1 fun v3 =>
 .norm [.s ((v3.getD 0 d0).ss), .i (IntKind.i64.wrap ((v3.getD 1 d0).ii + (1 : Int))), .sl ((v3.getD 2 d0).ll), .sl ((v3.getD 3 d0).ll), .sl ((v3.getD 4 d0).ll)]
 else
 .ex 0 []
noncomputable def E_spec_TypeAt (a : List DC) : Out :=
 Out.andThenB (Loop E_spec_TypeAtL1 [.s ((a.getD 3 d0).ss), .i (0 : Int), .sl ((a.getD 0 d0).ll), .sl ((a.getD 1 d0).ll), .sl ((a.getD 2 d0).ll)]) 0 fun v4 =>
 .ret [.i (-1 : Int)]
theorem eq_spec_TypeAt a : r_spec_TypeAt a = E_spec_TypeAt a := (Run_eq cfg 73 _ a).trans (by kernel_rfl)
noncomputable def E_spec_l13CopyInsL1 : List DC → Out := fun v1 =>
 if (decide ((v1.getD 2 d0).ii < (((v1.getD 0 d0).ll).length : Int))) = true then
 Out.andThenB (if 123 = 123 ∧ 0 ≤ (v1.getD 2 d0).ii ∧ (v1.getD 2 d0).ii < (((v1.getD 0 d0).ll).length : Int) then
 (r_spec_l07Copy [.i (((((v1.getD 0 d0).ll).getD ((v1.getD 2 d0).ii).toNat []).getD 5 d0).ii), .s (((((v1.getD 0 d0).ll).getD ((v1.getD 2 d0).ii).toNat []).getD 6 d0).ss), .sl (((((v1.getD 0 d0).ll).getD ((v1.getD 2 d0).ii).toNat []).getD 7 d0).ll), .sl (((((v1.getD 0 d0).ll).getD ((v1.getD 2 d0).ii).toNat []).getD 8 d0).ll)]).bindR fun r2 =>
 (r_spec_l10Dirs [.sl (((((v1.getD 0 d0).ll).getD ((v1.getD 2 d0).ii).toNat []).getD 9 d0).ll)]).bindR fun r3 =>
 if ((v1.getD 1 d0).ll).length + [[DC.s (((((v1.getD 0 d0).ll).getD ((v1.getD 2 d0).ii).toNat []).getD 0 d0).ss), DC.s (((((v1.getD 0 d0).ll).getD ((v1.getD 2 d0).ii).toNat []).getD 1 d0).ss), DC.s (((((v1.getD 0 d0).ll).getD ((v1.getD 2 d0).ii).toNat []).getD 2 d0).ss), DC.s (((((v1.getD 0 d0).ll).getD ((v1.getD 2 d0).ii).toNat []).getD 3 d0).ss), DC.b (((((v1.getD 0 d0).ll).getD ((v1.getD 2 d0).ii).toNat []).getD 4 d0).bb), DC.i ((r2.getD 0 d0).ii), DC.s ((r2.getD 1 d0).ss), DC.sl ((r2.getD 2 d0).ll), DC.sl ((r2.getD 3 d0).ll), DC.sl ((r3.getD 0 d0).ll)]].length < LIM ∧ 27 = 27 then
 .norm [.sl ((v1.getD 0 d0).ll), .sl (((v1.getD 1 d0).ll) ++ [[DC.s (((((v1.getD 0 d0).ll).getD ((v1.getD 2 d0).ii).toNat []).getD 0 d0).ss), DC.s (((((v1.getD 0 d0).ll).getD ((v1.getD 2 d0).ii).toNat []).getD 1 d0).ss), DC.s (((((v1.getD 0 d0).ll).getD ((v1.getD 2 d0).ii).toNat []).getD 2 d0).ss), DC.s (((((v1.getD 0 d0).ll).getD ((v1.getD 2 d0).ii).toNat []).getD 3 d0).ss), DC.b (((((v1.getD 0 d0).ll).getD ((v1.getD 2 d0).ii).toNat []).getD 4 d0).bb), DC.i ((r2.getD 0 d0).ii), DC.s ((r2.getD 1 d0).ss), DC.sl ((r2.getD 2 d0).ll), DC.sl ((r2.getD 3 d0).ll), DC.sl ((r3.getD 0 d0).ll)]]), .i ((v1.getD 2 d0).ii)]
 else
 .fail
 else
 .fail) 1 fun v4 =>
 .norm [.sl ((v4.getD 0 d0).ll), .sl ((v4.getD 1 d0).ll), .i (IntKind.i64.wrap ((v4.getD 2 d0).ii + (1 : Int)))]
 else
 .ex 0 [.sl ((v1.getD 1 d0).ll)]
noncomputable def E_spec_l13CopyIns (a : List DC) : Out :=
 Out.andThenB (Loop E_spec_l13CopyInsL1 [.sl ((a.getD 0 d0).ll), .sl [], .i (0 : Int)]) 0 fun v5 =>
 .ret [.sl ((v5.getD 0 d0).ll)]
theorem eq_spec_l13CopyIns a : r_spec_l13CopyIns a = E_spec_l13CopyIns a := (Run_eq cfg 89 _ a).trans (by kernel_rfl)
noncomputable def E_spec_l10DirsL1 : List DC → Out := fun v1 =>
 if (decide ((v1.getD 2 d0).ii < (((v1.getD 0 d0).ll).length : Int))) = true then
 Out.andThenB (if 127 = 127 ∧ 0 ≤ (v1.getD 2 d0).ii ∧ (v1.getD 2 d0).ii < (((v1.getD 0 d0).ll).length : Int) then
 if 127 = 127 ∧ 0 ≤ (v1.getD 2 d0).ii ∧ (v1.getD 2 d0).ii < (((v1.getD 0 d0).ll).length : Int) then
 (r_spec_l10Args [.sl (((((v1.getD 0 d0).ll).getD ((v1.getD 2 d0).ii).toNat []).getD 1 d0).ll)]).bindR fun r2 =>
 if ((v1.getD 1 d0).ll).length + [[DC.s (((((v1.getD 0 d0).ll).getD ((v1.getD 2 d0).ii).toNat []).getD 0 d0).ss), DC.sl ((r2.getD 0 d0).ll)]].length < LIM ∧ 30 = 30 then
 .norm [.sl ((v1.getD 0 d0).ll), .sl (((v1.getD 1 d0).ll) ++ [[DC.s (((((v1.getD 0 d0).ll).getD ((v1.getD 2 d0).ii).toNat []).getD 0 d0).ss), DC.sl ((r2.getD 0 d0).ll)]]), .i ((v1.getD 2 d0).ii)]
 else
 .fail
 else
 .fail
 else
 .fail) 1 fun v3 =>
 .norm [.sl ((v3.getD 0 d0).ll), .sl ((v3.getD 1 d0).ll), .i (IntKind.i64.wrap ((v3.getD 2 d0).ii + (1 : Int)))]
 else
 .ex 0 [.sl ((v1.getD 1 d0).ll)]
noncomputable def E_spec_l10Dirs (a : List DC) : Out :=
 Out.andThenB (Loop E_spec_l10DirsL1 [.sl ((a.getD 0 d0).ll), .sl [], .i (0 : Int)]) 0 fun v4 =>
 .ret [.sl ((v4.getD 0 d0).ll)]
theorem eq_spec_l10Dirs a : r_spec_l10Dirs a = E_spec_l10Dirs a := (Run_eq cfg 90 _ a).trans (by kernel_rfl)
noncomputable def E_impl_IsComposite (a : List DC) : Out :=
 (r_impl_KindOf [.sl ((a.getD 0 d0).ll), .sl ((a.getD 1 d0).ll), .sl ((a.getD 2 d0).ll), .s ((a.getD 3 d0).ss)]).bindR fun r1 =>
 Out.andThen (if ((r1.getD 0 d0).ii == (2 : Int)) = true then
 .norm [.b true]
 else
 if ((r1.getD 0 d0).ii == (3 : Int)) = true then
 .norm [.b true]
 else
 .norm [.b ((r1.getD 0 d0).ii == (4 : Int))]) fun v2 =>
 .ret [.b ((v2.getD 0 d0).bb)]
theorem eq_impl_IsComposite a : r_impl_IsComposite a = E_impl_IsComposite a := (Run_eq cfg 92 _ a).trans (by kernel_rfl)
noncomputable def E_impl_typeDef (a : List DC) : Out :=
 (r_impl_TypeAt [.sl ((a.getD 0 d0).ll), .sl ((a.getD 1 d0).ll), .sl ((a.getD 2 d0).ll), .s ((a.getD 3 d0).ss)]).bindR fun r1 =>
 if (decide ((r1.getD 0 d0).ii < (0 : Int))) = true then
 .ret [.i (0 : Int), .b false, .s [], .s [], .sl [], .sl [], .sl [], .sl [], .sl [], .b false, .sl [], .b false]
 else
 if 84 = 84 ∧ 0 ≤ (r1.getD 0 d0).ii ∧ (r1.getD 0 d0).ii < (((a.getD 0 d0).ll).length : Int) then
 .ret [.i (((((a.getD 0 d0).ll).getD ((r1.getD 0 d0).ii).toNat []).getD 0 d0).ii), .b (((((a.getD 0 d0).ll).getD ((r1.getD 0 d0).ii).toNat []).getD 1 d0).bb), .s (((((a.getD 0 d0).ll).getD ((r1.getD 0 d0).ii).toNat []).getD 2 d0).ss), .s (((((a.getD 0 d0).ll).getD ((r1.getD 0 d0).ii).toNat []).getD 3 d0).ss), .sl (((((a.getD 0 d0).ll).getD ((r1.getD 0 d0).ii).toNat []).getD 4 d0).ll), .sl (((((a.getD 0 d0).ll).getD ((r1.getD 0 d0).ii).toNat []).getD 5 d0).ll), .sl (((((a.getD 0 d0).ll).getD ((r1.getD 0 d0).ii).toNat []).getD 6 d0).ll), .sl (((((a.getD 0 d0).ll).getD ((r1.getD 0 d0).ii).toNat []).getD 7 d0).ll), .sl (((((a.getD 0 d0).ll).getD ((r1.getD 0 d0).ii).toNat []).getD 8 d0).ll), .b (((((a.getD 0 d0).ll).getD ((r1.getD 0 d0).ii).toNat []).getD 9 d0).bb), .sl (((((a.getD 0 d0).ll).getD ((r1.getD 0 d0).ii).toNat []).getD 10 d0).ll), .b true]
 else
 .fail
theorem eq_impl_typeDef a : r_impl_typeDef a = E_impl_typeDef a := (Run_eq cfg 76 _ a).trans (by kernel_rfl)
noncomputable def E_impl_fieldOf (a : List DC) : Out :=
 (r_slices_IndexFunc_impl_FieldDef__impl_fieldOf_1 [.sl ((a.getD 5 d0).ll), .s ((a.getD 11 d0).ss)]).bindR fun r1 =>
 if (decide ((r1.getD 0 d0).ii < (0 : Int))) = true then
 .ret [.s [], .s [], .sl [], .s [], .s [], .sl [], .b false]
 else
 if 32 = 32 ∧ 0 ≤ (r1.getD 0 d0).ii ∧ (r1.getD 0 d0).ii < (((a.getD 5 d0).ll).length : Int) then
 .ret [.s (((((a.getD 5 d0).ll).getD ((r1.getD 0 d0).ii).toNat []).getD 0 d0).ss), .s (((((a.getD 5 d0).ll).getD ((r1.getD 0 d0).ii).toNat []).getD 1 d0).ss), .sl (((((a.getD 5 d0).ll).getD ((r1.getD 0 d0).ii).toNat []).getD 2 d0).ll), .s (((((a.getD 5 d0).ll).getD ((r1.getD 0 d0).ii).toNat []).getD 3 d0).ss), .s (((((a.getD 5 d0).ll).getD ((r1.getD 0 d0).ii).toNat []).getD 4 d0).ss), .sl (((((a.getD 5 d0).ll).getD ((r1.getD 0 d0).ii).toNat []).getD 5 d0).ll), .b true]
 else
 .fail
theorem eq_impl_fieldOf a : r_impl_fieldOf a = E_impl_fieldOf a := (Run_eq cfg 93 _ a).trans (by kernel_rfl)
noncomputable def E_impl_cloneInsL1 : List DC → Out := fun v5 =>
 if (decide ((v5.getD 3 d0).ii < (v5.getD 2 d0).ii)) = true then
 Out.andThenB (if 123 = 123 ∧ 0 ≤ (v5.getD 3 d0).ii ∧ (v5.getD 3 d0).ii < (((v5.getD 1 d0).ll).length : Int) then
 (r_impl_cloneValue [.i (((((v5.getD 1 d0).ll).getD ((v5.getD 3 d0).ii).toNat []).getD 5 d0).ii), .s (((((v5.getD 1 d0).ll).getD ((v5.getD 3 d0).ii).toNat []).getD 6 d0).ss), .sl (((((v5.getD 1 d0).ll).getD ((v5.getD 3 d0).ii).toNat []).getD 7 d0).ll), .sl (((((v5.getD 1 d0).ll).getD ((v5.getD 3 d0).ii).toNat []).getD 8 d0).ll)]).bindR fun r6 =>
 (r_impl_cloneDirs [.sl (((((v5.getD 1 d0).ll).getD ((v5.getD 3 d0).ii).toNat []).getD 9 d0).ll)]).bindR fun r7 =>
 if ((v5.getD 0 d0).ll).length + [[DC.s (((((v5.getD 1 d0).ll).getD ((v5.getD 3 d0).ii).toNat []).getD 0 d0).ss), DC.s (((((v5.getD 1 d0).ll).getD ((v5.getD 3 d0).ii).toNat []).getD 1 d0).ss), DC.s (((((v5.getD 1 d0).ll).getD ((v5.getD 3 d0).ii).toNat []).getD 2 d0).ss), DC.s (((((v5.getD 1 d0).ll).getD ((v5.getD 3 d0).ii).toNat []).getD 3 d0).ss), DC.b (((((v5.getD 1 d0).ll).getD ((v5.getD 3 d0).ii).toNat []).getD 4 d0).bb), DC.i ((r6.getD 0 d0).ii), DC.s ((r6.getD 1 d0).ss), DC.sl ((r6.getD 2 d0).ll), DC.sl ((r6.getD 3 d0).ll), DC.sl ((r7.getD 0 d0).ll)]].length < LIM ∧ 27 = 27 then
 .norm [.sl (((v5.getD 0 d0).ll) ++ [[DC.s (((((v5.getD 1 d0).ll).getD ((v5.getD 3 d0).ii).toNat []).getD 0 d0).ss), DC.s (((((v5.getD 1 d0).ll).getD ((v5.getD 3 d0).ii).toNat []).getD 1 d0).ss), DC.s (((((v5.getD 1 d0).ll).getD ((v5.getD 3 d0).ii).toNat []).getD 2 d0).ss), DC.s (((((v5.getD 1 d0).ll).getD ((v5.getD 3 d0).ii).toNat []).getD 3 d0).ss), DC.b (((((v5.getD 1 d0).ll).getD ((v5.getD 3 d0).ii).toNat []).getD 4 d0).bb), DC.i ((r6.getD 0 d0).ii), DC.s ((r6.getD 1 d0).ss), DC.sl ((r6.getD 2 d0).ll), DC.sl ((r6.getD 3 d0).ll), DC.sl ((r7.getD 0 d0).ll)]]), .sl ((v5.getD 1 d0).ll), .i ((v5.getD 2 d0).ii), .i ((v5.getD 3 d0).ii)]
 else
 .fail
 else
 .fail) 1 fun v8 =>
 .norm [.sl ((v8.getD 0 d0).ll), .sl ((v8.getD 1 d0).ll), .i ((v8.getD 2 d0).ii), .i (IntKind.i64.wrap ((v8.getD 3 d0).ii + (1 : Int)))]
 else
 .ex 0 [.sl ((v5.getD 0 d0).ll)]
noncomputable def E_impl_cloneIns (a : List DC) : Out :=
 Out.andThenB (Loop E_impl_cloneInsL1 [.sl [], .sl ((a.getD 0 d0).ll), .i (((a.getD 0 d0).ll).length : Int), .i (0 : Int)]) 0 fun v9 =>
 .ret [.sl ((v9.getD 0 d0).ll)]
theorem eq_impl_cloneIns a : r_impl_cloneIns a = E_impl_cloneIns a := (Run_eq cfg 94 _ a).trans (by kernel_rfl)
noncomputable def E_impl_cloneDirsL1 : List DC → Out := fun v4 =>
 if (decide ((v4.getD 3 d0).ii < (v4.getD 2 d0).ii)) = true then
 Out.andThenB (if 127 = 127 ∧ 0 ≤ (v4.getD 3 d0).ii ∧ (v4.getD 3 d0).ii < (((v4.getD 1 d0).ll).length : Int) then
 (r_impl_cloneArgs [.sl (((((v4.getD 1 d0).ll).getD ((v4.getD 3 d0).ii).toNat []).getD 1 d0).ll)]).bindR fun r5 =>
 if ((v4.getD 0 d0).ll).length + [[DC.s (((((v4.getD 1 d0).ll).getD ((v4.getD 3 d0).ii).toNat []).getD 0 d0).ss), DC.sl ((r5.getD 0 d0).ll)]].length < LIM ∧ 30 = 30 then
 .norm [.sl (((v4.getD 0 d0).ll) ++ [[DC.s (((((v4.getD 1 d0).ll).getD ((v4.getD 3 d0).ii).toNat []).getD 0 d0).ss), DC.sl ((r5.getD 0 d0).ll)]]), .sl ((v4.getD 1 d0).ll), .i ((v4.getD 2 d0).ii), .i ((v4.getD 3 d0).ii)]
 else
 .fail
 else
 .fail) 1 fun v6 =>
 .norm [.sl ((v6.getD 0 d0).ll), .sl ((v6.getD 1 d0).ll), .i ((v6.getD 2 d0).ii), .i (IntKind.i64.wrap ((v6.getD 3 d0).ii + (1 : Int)))]
 else
 .ex 0 [.sl ((v4.getD 0 d0).ll)]
noncomputable def E_impl_cloneDirs (a : List DC) : Out :=
 Out.andThenB (Loop E_impl_cloneDirsL1 [.sl [], .sl ((a.getD 0 d0).ll), .i (((a.getD 0 d0).ll).length : Int), .i (0 : Int)]) 0 fun v7 =>
 .ret [.sl ((v7.getD 0 d0).ll)]
theorem eq_impl_cloneDirs a : r_impl_cloneDirs a = E_impl_cloneDirs a := (Run_eq cfg 95 _ a).trans (by kernel_rfl)
noncomputable def E_laws_eqInDef (a : List DC) : Out :=
 if (!((a.getD 0 d0).ss == (a.getD 10 d0).ss)) = true then
 .ret [.b false]
 else
 if (!((a.getD 1 d0).ss == (a.getD 11 d0).ss)) = true then
 .ret [.b false]
 else
 (r_laws_eqType [.s ((a.getD 2 d0).ss), .s ((a.getD 3 d0).ss), .s ((a.getD 12 d0).ss), .s ((a.getD 13 d0).ss)]).bindR fun r1 =>
 if (!((r1.getD 0 d0).bb)) = true then
 .ret [.b false]
 else
 if (!((a.getD 4 d0).bb == (a.getD 14 d0).bb)) = true then
 .ret [.b false]
 else
 (r_laws_eqValue [.i ((a.getD 5 d0).ii), .s ((a.getD 6 d0).ss), .sl ((a.getD 7 d0).ll), .sl ((a.getD 8 d0).ll), .i ((a.getD 15 d0).ii), .s ((a.getD 16 d0).ss), .sl ((a.getD 17 d0).ll), .sl ((a.getD 18 d0).ll)]).bindR fun r2 =>
 if (!((r2.getD 0 d0).bb)) = true then
 .ret [.b false]
 else
 (r_laws_eqDirS [.sl ((a.getD 9 d0).ll), .sl ((a.getD 19 d0).ll)]).bindR fun r3 =>
 if (!((r3.getD 0 d0).bb)) = true then
 .ret [.b false]
 else
 .ret [.b true]
theorem eq_laws_eqInDef a : r_laws_eqInDef a = E_laws_eqInDef a := (Run_eq cfg 96 _ a).trans (by kernel_rfl)
noncomputable def E_laws_eqDir (a : List DC) : Out :=
 if (!((a.getD 0 d0).ss == (a.getD 2 d0).ss)) = true then
 .ret [.b false]
 else
 (r_laws_eqArgS [.sl ((a.getD 1 d0).ll), .sl ((a.getD 3 d0).ll)]).bindR fun r1 =>
 if (!((r1.getD 0 d0).bb)) = true then
 .ret [.b false]
 else
 .ret [.b true]
theorem eq_laws_eqDir a : r_laws_eqDir a = E_laws_eqDir a := (Run_eq cfg 97 _ a).trans (by kernel_rfl)
noncomputable def E_laws_eqDef (a : List DC) : Out :=
 if ((a.getD 0 d0).ii != (a.getD 11 d0).ii) = true then
 .ret [.b false]
 else
 if (!((a.getD 1 d0).bb == (a.getD 12 d0).bb)) = true then
 .ret [.b false]
 else
 if (!((a.getD 2 d0).ss == (a.getD 13 d0).ss)) = true then
 .ret [.b false]
 else
 if (!((a.getD 3 d0).ss == (a.getD 14 d0).ss)) = true then
 .ret [.b false]
 else
 (r_laws_eqStringS [.sl ((a.getD 4 d0).ll), .sl ((a.getD 15 d0).ll)]).bindR fun r1 =>
 if (!((r1.getD 0 d0).bb)) = true then
 .ret [.b false]
 else
 (r_laws_eqFieldDefS [.sl ((a.getD 5 d0).ll), .sl ((a.getD 16 d0).ll)]).bindR fun r2 =>
 if (!((r2.getD 0 d0).bb)) = true then
 .ret [.b false]
 else
 (r_laws_eqInDefS [.sl ((a.getD 6 d0).ll), .sl ((a.getD 17 d0).ll)]).bindR fun r3 =>
 if (!((r3.getD 0 d0).bb)) = true then
 .ret [.b false]
 else
 (r_laws_eqEnumDefS [.sl ((a.getD 7 d0).ll), .sl ((a.getD 18 d0).ll)]).bindR fun r4 =>
 if (!((r4.getD 0 d0).bb)) = true then
 .ret [.b false]
 else
 (r_laws_eqRootS [.sl ((a.getD 8 d0).ll), .sl ((a.getD 19 d0).ll)]).bindR fun r5 =>
 if (!((r5.getD 0 d0).bb)) = true then
 .ret [.b false]
 else
 if (!((a.getD 9 d0).bb == (a.getD 20 d0).bb)) = true then
 .ret [.b false]
 else
 (r_laws_eqDirS [.sl ((a.getD 10 d0).ll), .sl ((a.getD 21 d0).ll)]).bindR fun r6 =>
 if (!((r6.getD 0 d0).bb)) = true then
 .ret [.b false]
 else
 .ret [.b true]
theorem eq_laws_eqDef a : r_laws_eqDef a = E_laws_eqDef a := (Run_eq cfg 65 _ a).trans (by kernel_rfl)
noncomputable def E_laws_eqRoot (a : List DC) : Out :=
 if ((a.getD 0 d0).ii != (a.getD 2 d0).ii) = true then
 .ret [.b false]
 else
 if (!((a.getD 1 d0).ss == (a.getD 3 d0).ss)) = true then
 .ret [.b false]
 else
 .ret [.b true]
theorem eq_laws_eqRoot a : r_laws_eqRoot a = E_laws_eqRoot a := (Run_eq cfg 98 _ a).trans (by kernel_rfl)
theorem eq_laws_markText a : r_laws_markText a = E_laws_markText a := (Run_eq cfg 67 _ a).trans (by kernel_rfl)
noncomputable def E_laws_heldValueSL1 : List DC → Out := fun v1 =>
 if (decide ((v1.getD 2 d0).ii < (((v1.getD 0 d0).ll).length : Int))) = true then
 Out.andThenB (if 121 = 121 ∧ 0 ≤ (v1.getD 2 d0).ii ∧ (v1.getD 2 d0).ii < (((v1.getD 0 d0).ll).length : Int) then
 if (((((v1.getD 0 d0).ll).getD ((v1.getD 2 d0).ii).toNat []).getD 0 d0).ii != (v1.getD 1 d0).ii) = true then
 .ret [.i (-1 : Int)]
 else
 if 121 = 121 ∧ 0 ≤ (v1.getD 2 d0).ii ∧ (v1.getD 2 d0).ii < (((v1.getD 0 d0).ll).length : Int) then
 (r_laws_markText [.i (IntKind.i64.wrap ((v1.getD 1 d0).ii + (1 : Int)))]).bindR fun r2 =>
 if (!(((((v1.getD 0 d0).ll).getD ((v1.getD 2 d0).ii).toNat []).getD 1 d0).ss == (r2.getD 0 d0).ss)) = true then
 .ret [.i (-1 : Int)]
 else
 if 121 = 121 ∧ 0 ≤ (v1.getD 2 d0).ii ∧ (v1.getD 2 d0).ii < (((v1.getD 0 d0).ll).length : Int) then
 (r_laws_heldValueS [.sl (((((v1.getD 0 d0).ll).getD ((v1.getD 2 d0).ii).toNat []).getD 2 d0).ll), .i (IntKind.i64.wrap ((IntKind.i64.wrap ((v1.getD 1 d0).ii + (1 : Int))) + (1 : Int)))]).bindR fun r3 =>
 if (decide ((r3.getD 0 d0).ii < (0 : Int))) = true then
 .ret [.i (-1 : Int)]
 else
 if 121 = 121 ∧ 0 ≤ (v1.getD 2 d0).ii ∧ (v1.getD 2 d0).ii < (((v1.getD 0 d0).ll).length : Int) then
 (r_laws_heldStringS [.sl (((((v1.getD 0 d0).ll).getD ((v1.getD 2 d0).ii).toNat []).getD 3 d0).ll), .i ((r3.getD 0 d0).ii)]).bindR fun r4 =>
 if (decide ((r4.getD 0 d0).ii < (0 : Int))) = true then
 .ret [.i (-1 : Int)]
 else
 .norm [.sl ((v1.getD 0 d0).ll), .i ((r4.getD 0 d0).ii), .i ((v1.getD 2 d0).ii)]
 else
 .fail
 else
 .fail
 else
 .fail
 else
 .fail) 1 fun v5 =>
 .norm [.sl ((v5.getD 0 d0).ll), .i ((v5.getD 1 d0).ii), .i (IntKind.i64.wrap ((v5.getD 2 d0).ii + (1 : Int)))]
 else
 .ex 0 [.i ((v1.getD 1 d0).ii)]
noncomputable def E_laws_heldValueS (a : List DC) : Out :=
 Out.andThenB (Loop E_laws_heldValueSL1 [.sl ((a.getD 0 d0).ll), .i ((a.getD 1 d0).ii), .i (0 : Int)]) 0 fun v6 =>
 .ret [.i ((v6.getD 0 d0).ii)]
theorem eq_laws_heldValueS a : r_laws_heldValueS a = E_laws_heldValueS a := (Run_eq cfg 101 _ a).trans (by kernel_rfl)
noncomputable def E_laws_heldStringSL1 : List DC → Out := fun v1 =>
 if (decide ((v1.getD 2 d0).ii < (((v1.getD 0 d0).ll).length : Int))) = true then
 Out.andThenB (if 9 = 9 ∧ 0 ≤ (v1.getD 2 d0).ii ∧ (v1.getD 2 d0).ii < (((v1.getD 0 d0).ll).length : Int) then
 (r_laws_markText [.i ((v1.getD 1 d0).ii)]).bindR fun r2 =>
 if (!(((((v1.getD 0 d0).ll).getD ((v1.getD 2 d0).ii).toNat []).getD 0 d0).ss == (r2.getD 0 d0).ss)) = true then
 .ret [.i (-1 : Int)]
 else
 .norm [.sl ((v1.getD 0 d0).ll), .i (IntKind.i64.wrap ((v1.getD 1 d0).ii + (1 : Int))), .i ((v1.getD 2 d0).ii)]
 else
 .fail) 1 fun v3 =>
 .norm [.sl ((v3.getD 0 d0).ll), .i ((v3.getD 1 d0).ii), .i (IntKind.i64.wrap ((v3.getD 2 d0).ii + (1 : Int)))]
 else
 .ex 0 [.i ((v1.getD 1 d0).ii)]
noncomputable def E_laws_heldStringS (a : List DC) : Out :=
 Out.andThenB (Loop E_laws_heldStringSL1 [.sl ((a.getD 0 d0).ll), .i ((a.getD 1 d0).ii), .i (0 : Int)]) 0 fun v4 =>
 .ret [.i ((v4.getD 0 d0).ii)]
theorem eq_laws_heldStringS a : r_laws_heldStringS a = E_laws_heldStringS a := (Run_eq cfg 31 _ a).trans (by kernel_rfl)
noncomputable def E_laws_heldArgSL1 : List DC → Out := fun v1 =>
 if (decide ((v1.getD 2 d0).ii < (((v1.getD 0 d0).ll).length : Int))) = true then
 Out.andThenB (if 160 = 160 ∧ 0 ≤ (v1.getD 2 d0).ii ∧ (v1.getD 2 d0).ii < (((v1.getD 0 d0).ll).length : Int) then
 (r_laws_markText [.i ((v1.getD 1 d0).ii)]).bindR fun r2 =>
 if (!(((((v1.getD 0 d0).ll).getD ((v1.getD 2 d0).ii).toNat []).getD 0 d0).ss == (r2.getD 0 d0).ss)) = true then
 .ret [.i (-1 : Int)]
 else
 if 160 = 160 ∧ 0 ≤ (v1.getD 2 d0).ii ∧ (v1.getD 2 d0).ii < (((v1.getD 0 d0).ll).length : Int) then
 if (((((v1.getD 0 d0).ll).getD ((v1.getD 2 d0).ii).toNat []).getD 1 d0).ii != (IntKind.i64.wrap ((v1.getD 1 d0).ii + (1 : Int)))) = true then
 .ret [.i (-1 : Int)]
 else
 if 160 = 160 ∧ 0 ≤ (v1.getD 2 d0).ii ∧ (v1.getD 2 d0).ii < (((v1.getD 0 d0).ll).length : Int) then
 (r_laws_markText [.i (IntKind.i64.wrap ((IntKind.i64.wrap ((v1.getD 1 d0).ii + (1 : Int))) + (1 : Int)))]).bindR fun r3 =>
 if (!(((((v1.getD 0 d0).ll).getD ((v1.getD 2 d0).ii).toNat []).getD 2 d0).ss == (r3.getD 0 d0).ss)) = true then
 .ret [.i (-1 : Int)]
 else
 if 160 = 160 ∧ 0 ≤ (v1.getD 2 d0).ii ∧ (v1.getD 2 d0).ii < (((v1.getD 0 d0).ll).length : Int) then
 (r_laws_heldValueS [.sl (((((v1.getD 0 d0).ll).getD ((v1.getD 2 d0).ii).toNat []).getD 3 d0).ll), .i (IntKind.i64.wrap ((IntKind.i64.wrap ((IntKind.i64.wrap ((v1.getD 1 d0).ii + (1 : Int))) + (1 : Int))) + (1 : Int)))]).bindR fun r4 =>
 if (decide ((r4.getD 0 d0).ii < (0 : Int))) = true then
 .ret [.i (-1 : Int)]
 else
 if 160 = 160 ∧ 0 ≤ (v1.getD 2 d0).ii ∧ (v1.getD 2 d0).ii < (((v1.getD 0 d0).ll).length : Int) then
 (r_laws_heldStringS [.sl (((((v1.getD 0 d0).ll).getD ((v1.getD 2 d0).ii).toNat []).getD 4 d0).ll), .i ((r4.getD 0 d0).ii)]).bindR fun r5 =>
 if (decide ((r5.getD 0 d0).ii < (0 : Int))) = true then
 .ret [.i (-1 : Int)]
 else
 .norm [.sl ((v1.getD 0 d0).ll), .i ((r5.getD 0 d0).ii), .i ((v1.getD 2 d0).ii)]
 else
 .fail
 else
 .fail
 else
 .fail
 else
 .fail
 else
 .fail) 1 fun v6 =>
 .norm [.sl ((v6.getD 0 d0).ll), .i ((v6.getD 1 d0).ii), .i (IntKind.i64.wrap ((v6.getD 2 d0).ii + (1 : Int)))]
 else
 .ex 0 [.i ((v1.getD 1 d0).ii)]
noncomputable def E_laws_heldArgS (a : List DC) : Out :=
 Out.andThenB (Loop E_laws_heldArgSL1 [.sl ((a.getD 0 d0).ll), .i ((a.getD 1 d0).ii), .i (0 : Int)]) 0 fun v7 =>
 .ret [.i ((v7.getD 0 d0).ii)]
theorem eq_laws_heldArgS a : r_laws_heldArgS a = E_laws_heldArgS a := (Run_eq cfg 102 _ a).trans (by kernel_rfl)
noncomputable def E_laws_szStringSL1 : List DC → Out := fun v1 =>
 if (decide ((v1.getD 2 d0).ii < (((v1.getD 0 d0).ll).length : Int))) = true then
 Out.andThenB (if 9 = 9 ∧ 0 ≤ (v1.getD 2 d0).ii ∧ (v1.getD 2 d0).ii < (((v1.getD 0 d0).ll).length : Int) then
 if (decide ((IntKind.i64.wrap ((v1.getD 1 d0).ii - ((((((v1.getD 0 d0).ll).getD ((v1.getD 2 d0).ii).toNat []).getD 0 d0).ss).length : Int))) < (0 : Int))) = true then
 .ret [.i (-1 : Int)]
 else
 .norm [.sl ((v1.getD 0 d0).ll), .i (IntKind.i64.wrap ((v1.getD 1 d0).ii - ((((((v1.getD 0 d0).ll).getD ((v1.getD 2 d0).ii).toNat []).getD 0 d0).ss).length : Int))), .i ((v1.getD 2 d0).ii)]
 else
 .fail) 1 fun v2 =>
 .norm [.sl ((v2.getD 0 d0).ll), .i ((v2.getD 1 d0).ii), .i (IntKind.i64.wrap ((v2.getD 2 d0).ii + (1 : Int)))]
 else
 .ex 0 [.i ((v1.getD 1 d0).ii)]
noncomputable def E_laws_szStringS (a : List DC) : Out :=
 if (decide ((IntKind.i64.wrap ((a.getD 1 d0).ii - (((a.getD 0 d0).ll).length : Int))) < (0 : Int))) = true then
 .ret [.i (-1 : Int)]
 else
 Out.andThenB (Loop E_laws_szStringSL1 [.sl ((a.getD 0 d0).ll), .i (IntKind.i64.wrap ((a.getD 1 d0).ii - (((a.getD 0 d0).ll).length : Int))), .i (0 : Int)]) 0 fun v3 =>
 .ret [.i ((v3.getD 0 d0).ii)]
theorem eq_laws_szStringS a : r_laws_szStringS a = E_laws_szStringS a := (Run_eq cfg 103 _ a).trans (by kernel_rfl)
noncomputable def E_laws_szFieldDefSL1 : List DC → Out := fun v1 =>
 if (decide ((v1.getD 2 d0).ii < (((v1.getD 0 d0).ll).length : Int))) = true then
 Out.andThenB (if 164 = 164 ∧ 0 ≤ (v1.getD 2 d0).ii ∧ (v1.getD 2 d0).ii < (((v1.getD 0 d0).ll).length : Int) then
 (r_laws_szFieldDef [.s (((((v1.getD 0 d0).ll).getD ((v1.getD 2 d0).ii).toNat []).getD 0 d0).ss), .s (((((v1.getD 0 d0).ll).getD ((v1.getD 2 d0).ii).toNat []).getD 1 d0).ss), .sl (((((v1.getD 0 d0).ll).getD ((v1.getD 2 d0).ii).toNat []).getD 2 d0).ll), .s (((((v1.getD 0 d0).ll).getD ((v1.getD 2 d0).ii).toNat []).getD 3 d0).ss), .s (((((v1.getD 0 d0).ll).getD ((v1.getD 2 d0).ii).toNat []).getD 4 d0).ss), .sl (((((v1.getD 0 d0).ll).getD ((v1.getD 2 d0).ii).toNat []).getD 5 d0).ll), .i ((v1.getD 1 d0).ii)]).bindR fun r2 =>
 if (decide ((r2.getD 0 d0).ii < (0 : Int))) = true then
 .ret [.i (-1 : Int)]
 else
 .norm [.sl ((v1.getD 0 d0).ll), .i ((r2.getD 0 d0).ii), .i ((v1.getD 2 d0).ii)]
 else
 .fail) 1 fun v3 =>
 .norm [.sl ((v3.getD 0 d0).ll), .i ((v3.getD 1 d0).ii), .i (IntKind.i64.wrap ((v3.getD 2 d0).ii + (1 : Int)))]
 else
 .ex 0 [.i ((v1.getD 1 d0).ii)]
noncomputable def E_laws_szFieldDefS (a : List DC) : Out :=
 if (decide ((IntKind.i64.wrap ((a.getD 1 d0).ii - (((a.getD 0 d0).ll).length : Int))) < (0 : Int))) = true then
 .ret [.i (-1 : Int)]
 else
 Out.andThenB (Loop E_laws_szFieldDefSL1 [.sl ((a.getD 0 d0).ll), .i (IntKind.i64.wrap ((a.getD 1 d0).ii - (((a.getD 0 d0).ll).length : Int))), .i (0 : Int)]) 0 fun v4 =>
 .ret [.i ((v4.getD 0 d0).ii)]
theorem eq_laws_szFieldDefS a : r_laws_szFieldDefS a = E_laws_szFieldDefS a := (Run_eq cfg 104 _ a).trans (by kernel_rfl)
noncomputable def E_laws_szInDefSL1 : List DC → Out := fun v1 =>
 if (decide ((v1.getD 2 d0).ii < (((v1.getD 0 d0).ll).length : Int))) = true then
 Out.andThenB (if 170 = 170 ∧ 0 ≤ (v1.getD 2 d0).ii ∧ (v1.getD 2 d0).ii < (((v1.getD 0 d0).ll).length : Int) then
 (r_laws_szInDef [.s (((((v1.getD 0 d0).ll).getD ((v1.getD 2 d0).ii).toNat []).getD 0 d0).ss), .s (((((v1.getD 0 d0).ll).getD ((v1.getD 2 d0).ii).toNat []).getD 1 d0).ss), .s (((((v1.getD 0 d0).ll).getD ((v1.getD 2 d0).ii).toNat []).getD 2 d0).ss), .s (((((v1.getD 0 d0).ll).getD ((v1.getD 2 d0).ii).toNat []).getD 3 d0).ss), .b (((((v1.getD 0 d0).ll).getD ((v1.getD 2 d0).ii).toNat []).getD 4 d0).bb), .i (((((v1.getD 0 d0).ll).getD ((v1.getD 2 d0).ii).toNat []).getD 5 d0).ii), .s (((((v1.getD 0 d0).ll).getD ((v1.getD 2 d0).ii).toNat []).getD 6 d0).ss), .sl (((((v1.getD 0 d0).ll).getD ((v1.getD 2 d0).ii).toNat []).getD 7 d0).ll), .sl (((((v1.getD 0 d0).ll).getD ((v1.getD 2 d0).ii).toNat []).getD 8 d0).ll), .sl (((((v1.getD 0 d0).ll).getD ((v1.getD 2 d0).ii).toNat []).getD 9 d0).ll), .i ((v1.getD 1 d0).ii)]).bindR fun r2 =>
 if (decide ((r2.getD 0 d0).ii < (0 : Int))) = true then
 .ret [.i (-1 : Int)]
 else
 .norm [.sl ((v1.getD 0 d0).ll), .i ((r2.getD 0 d0).ii), .i ((v1.getD 2 d0).ii)]
 else
 .fail) 1 fun v3 =>
 .norm [.sl ((v3.getD 0 d0).ll), .i ((v3.getD 1 d0).ii), .i (IntKind.i64.wrap ((v3.getD 2 d0).ii + (1 : Int)))]
 else
 .ex 0 [.i ((v1.getD 1 d0).ii)]
noncomputable def E_laws_szInDefS (a : List DC) : Out :=
 if (decide ((IntKind.i64.wrap ((a.getD 1 d0).ii - (((a.getD 0 d0).ll).length : Int))) < (0 : Int))) = true then
 .ret [.i (-1 : Int)]
 else
 Out.andThenB (Loop E_laws_szInDefSL1 [.sl ((a.getD 0 d0).ll), .i (IntKind.i64.wrap ((a.getD 1 d0).ii - (((a.getD 0 d0).ll).length : Int))), .i (0 : Int)]) 0 fun v4 =>
 .ret [.i ((v4.getD 0 d0).ii)]
theorem eq_laws_szInDefS a : r_laws_szInDefS a = E_laws_szInDefS a := (Run_eq cfg 105 _ a).trans (by kernel_rfl)
noncomputable def E_laws_szEnumDefSL1 : List DC → Out := fun v1 =>
 if (decide ((v1.getD 2 d0).ii < (((v1.getD 0 d0).ll).length : Int))) = true then
 Out.andThenB (if 173 = 173 ∧ 0 ≤ (v1.getD 2 d0).ii ∧ (v1.getD 2 d0).ii < (((v1.getD 0 d0).ll).length : Int) then
 (r_laws_szEnumDef [.s (((((v1.getD 0 d0).ll).getD ((v1.getD 2 d0).ii).toNat []).getD 0 d0).ss), .s (((((v1.getD 0 d0).ll).getD ((v1.getD 2 d0).ii).toNat []).getD 1 d0).ss), .sl (((((v1.getD 0 d0).ll).getD ((v1.getD 2 d0).ii).toNat []).getD 2 d0).ll), .i ((v1.getD 1 d0).ii)]).bindR fun r2 =>
 if (decide ((r2.getD 0 d0).ii < (0 : Int))) = true then
 .ret [.i (-1 : Int)]
 else
 .norm [.sl ((v1.getD 0 d0).ll), .i ((r2.getD 0 d0).ii), .i ((v1.getD 2 d0).ii)]
 else
 .fail) 1 fun v3 =>
 .norm [.sl ((v3.getD 0 d0).ll), .i ((v3.getD 1 d0).ii), .i (IntKind.i64.wrap ((v3.getD 2 d0).ii + (1 : Int)))]
 else
 .ex 0 [.i ((v1.getD 1 d0).ii)]
noncomputable def E_laws_szEnumDefS (a : List DC) : Out :=
 if (decide ((IntKind.i64.wrap ((a.getD 1 d0).ii - (((a.getD 0 d0).ll).length : Int))) < (0 : Int))) = true then
 .ret [.i (-1 : Int)]
 else
 Out.andThenB (Loop E_laws_szEnumDefSL1 [.sl ((a.getD 0 d0).ll), .i (IntKind.i64.wrap ((a.getD 1 d0).ii - (((a.getD 0 d0).ll).length : Int))), .i (0 : Int)]) 0 fun v4 =>
 .ret [.i ((v4.getD 0 d0).ii)]
theorem eq_laws_szEnumDefS a : r_laws_szEnumDefS a = E_laws_szEnumDefS a := (Run_eq cfg 106 _ a).trans (by kernel_rfl)
noncomputable def E_laws_szDirSL1 : List DC → Out := fun v1 =>
 if (decide ((v1.getD 2 d0).ii < (((v1.getD 0 d0).ll).length : Int))) = true then
 Out.andThenB (if 177 = 177 ∧ 0 ≤ (v1.getD 2 d0).ii ∧ (v1.getD 2 d0).ii < (((v1.getD 0 d0).ll).length : Int) then
 (r_laws_szDir [.s (((((v1.getD 0 d0).ll).getD ((v1.getD 2 d0).ii).toNat []).getD 0 d0).ss), .sl (((((v1.getD 0 d0).ll).getD ((v1.getD 2 d0).ii).toNat []).getD 1 d0).ll), .i ((v1.getD 1 d0).ii)]).bindR fun r2 =>
 if (decide ((r2.getD 0 d0).ii < (0 : Int))) = true then
 .ret [.i (-1 : Int)]
 else
 .norm [.sl ((v1.getD 0 d0).ll), .i ((r2.getD 0 d0).ii), .i ((v1.getD 2 d0).ii)]
 else
 .fail) 1 fun v3 =>
 .norm [.sl ((v3.getD 0 d0).ll), .i ((v3.getD 1 d0).ii), .i (IntKind.i64.wrap ((v3.getD 2 d0).ii + (1 : Int)))]
 else
 .ex 0 [.i ((v1.getD 1 d0).ii)]
noncomputable def E_laws_szDirS (a : List DC) : Out :=
 if (decide ((IntKind.i64.wrap ((a.getD 1 d0).ii - (((a.getD 0 d0).ll).length : Int))) < (0 : Int))) = true then
 .ret [.i (-1 : Int)]
 else
 Out.andThenB (Loop E_laws_szDirSL1 [.sl ((a.getD 0 d0).ll), .i (IntKind.i64.wrap ((a.getD 1 d0).ii - (((a.getD 0 d0).ll).length : Int))), .i (0 : Int)]) 0 fun v4 =>
 .ret [.i ((v4.getD 0 d0).ii)]
theorem eq_laws_szDirS a : r_laws_szDirS a = E_laws_szDirS a := (Run_eq cfg 107 _ a).trans (by kernel_rfl)
noncomputable def E_laws_toStringSL1 : List DC → Out := fun v1 =>
 if (decide ((v1.getD 2 d0).ii < (((v1.getD 0 d0).ll).length : Int))) = true then
 Out.andThenB (if 9 = 9 ∧ 0 ≤ (v1.getD 2 d0).ii ∧ (v1.getD 2 d0).ii < (((v1.getD 0 d0).ll).length : Int) then
 if 9 = 9 ∧ 0 ≤ (v1.getD 2 d0).ii ∧ (v1.getD 2 d0).ii < (((v1.getD 1 d0).ll).length : Int) then
 .norm [.sl ((v1.getD 0 d0).ll), .sl (((v1.getD 1 d0).ll).set (((v1.getD 2 d0).ii).toNat) (setRunD (((v1.getD 1 d0).ll).getD (((v1.getD 2 d0).ii).toNat) []) 0 [DC.s (((((v1.getD 0 d0).ll).getD ((v1.getD 2 d0).ii).toNat []).getD 0 d0).ss)])), .i ((v1.getD 2 d0).ii)]
 else
 .fail
 else
 .fail) 1 fun v2 =>
 .norm [.sl ((v2.getD 0 d0).ll), .sl ((v2.getD 1 d0).ll), .i (IntKind.i64.wrap ((v2.getD 2 d0).ii + (1 : Int)))]
 else
 .ex 0 [.sl ((v1.getD 1 d0).ll)]
noncomputable def E_laws_toStringS (a : List DC) : Out :=
 if 0 ≤ (((a.getD 0 d0).ll).length : Int) ∧ (((a.getD 0 d0).ll).length : Int) < (LIM : Int) ∧ (((a.getD 0 d0).ll).length : Int) = (((a.getD 0 d0).ll).length : Int) ∧ 16 ≤ 1024 ∧ 0 < 1 ∧ dp 9 = false then
 Out.andThenB (Loop E_laws_toStringSL1 [.sl ((a.getD 0 d0).ll), .sl (List.replicate (((a.getD 0 d0).ll).length : Int).toNat [DC.s []]), .i (0 : Int)]) 0 fun v3 =>
 .ret [.sl ((v3.getD 0 d0).ll)]
 else
 .fail
theorem eq_laws_toStringS a : r_laws_toStringS a = E_laws_toStringS a := (Run_eq cfg 109 _ a).trans (by kernel_rfl)
noncomputable def E_laws_toFieldDefSL1 : List DC → Out := fun v1 =>
 if (decide ((v1.getD 2 d0).ii < (((v1.getD 0 d0).ll).length : Int))) = true then
 Out.andThenB (if 164 = 164 ∧ 0 ≤ (v1.getD 2 d0).ii ∧ (v1.getD 2 d0).ii < (((v1.getD 0 d0).ll).length : Int) then
 (r_laws_toFieldDef [.s (((((v1.getD 0 d0).ll).getD ((v1.getD 2 d0).ii).toNat []).getD 0 d0).ss), .s (((((v1.getD 0 d0).ll).getD ((v1.getD 2 d0).ii).toNat []).getD 1 d0).ss), .sl (((((v1.getD 0 d0).ll).getD ((v1.getD 2 d0).ii).toNat []).getD 2 d0).ll), .s (((((v1.getD 0 d0).ll).getD ((v1.getD 2 d0).ii).toNat []).getD 3 d0).ss), .s (((((v1.getD 0 d0).ll).getD ((v1.getD 2 d0).ii).toNat []).getD 4 d0).ss), .sl (((((v1.getD 0 d0).ll).getD ((v1.getD 2 d0).ii).toNat []).getD 5 d0).ll)]).bindR fun r2 =>
 if 32 = 32 ∧ 0 ≤ (v1.getD 2 d0).ii ∧ (v1.getD 2 d0).ii < (((v1.getD 1 d0).ll).length : Int) then
 .norm [.sl ((v1.getD 0 d0).ll), .sl (((v1.getD 1 d0).ll).set (((v1.getD 2 d0).ii).toNat) (setRunD (((v1.getD 1 d0).ll).getD (((v1.getD 2 d0).ii).toNat) []) 0 [DC.s ((r2.getD 0 d0).ss), DC.s ((r2.getD 1 d0).ss), DC.sl ((r2.getD 2 d0).ll), DC.s ((r2.getD 3 d0).ss), DC.s ((r2.getD 4 d0).ss), DC.sl ((r2.getD 5 d0).ll)])), .i ((v1.getD 2 d0).ii)]
 else
 .fail
 else
 .fail) 1 fun v3 =>
 .norm [.sl ((v3.getD 0 d0).ll), .sl ((v3.getD 1 d0).ll), .i (IntKind.i64.wrap ((v3.getD 2 d0).ii + (1 : Int)))]
 else
 .ex 0 [.sl ((v1.getD 1 d0).ll)]
noncomputable def E_laws_toFieldDefS (a : List DC) : Out :=
 if 0 ≤ (((a.getD 0 d0).ll).length : Int) ∧ (((a.getD 0 d0).ll).length : Int) < (LIM : Int) ∧ (((a.getD 0 d0).ll).length : Int) = (((a.getD 0 d0).ll).length : Int) ∧ 112 ≤ 1024 ∧ 0 < 6 ∧ dp 32 = false then
 Out.andThenB (Loop E_laws_toFieldDefSL1 [.sl ((a.getD 0 d0).ll), .sl (List.replicate (((a.getD 0 d0).ll).length : Int).toNat [DC.s [], DC.s [], DC.sl [], DC.s [], DC.s [], DC.sl []]), .i (0 : Int)]) 0 fun v4 =>
 .ret [.sl ((v4.getD 0 d0).ll)]
 else
 .fail
theorem eq_laws_toFieldDefS a : r_laws_toFieldDefS a = E_laws_toFieldDefS a := (Run_eq cfg 110 _ a).trans (by kernel_rfl)
noncomputable def E_laws_toInDefSL1 : List DC → Out := fun v1 =>
 if (decide ((v1.getD 2 d0).ii < (((v1.getD 0 d0).ll).length : Int))) = true then
 Out.andThenB (if 170 = 170 ∧ 0 ≤ (v1.getD 2 d0).ii ∧ (v1.getD 2 d0).ii < (((v1.getD 0 d0).ll).length : Int) then
 (r_laws_toInDef [.s (((((v1.getD 0 d0).ll).getD ((v1.getD 2 d0).ii).toNat []).getD 0 d0).ss), .s (((((v1.getD 0 d0).ll).getD ((v1.getD 2 d0).ii).toNat []).getD 1 d0).ss), .s (((((v1.getD 0 d0).ll).getD ((v1.getD 2 d0).ii).toNat []).getD 2 d0).ss), .s (((((v1.getD 0 d0).ll).getD ((v1.getD 2 d0).ii).toNat []).getD 3 d0).ss), .b (((((v1.getD 0 d0).ll).getD ((v1.getD 2 d0).ii).toNat []).getD 4 d0).bb), .i (((((v1.getD 0 d0).ll).getD ((v1.getD 2 d0).ii).toNat []).getD 5 d0).ii), .s (((((v1.getD 0 d0).ll).getD ((v1.getD 2 d0).ii).toNat []).getD 6 d0).ss), .sl (((((v1.getD 0 d0).ll).getD ((v1.getD 2 d0).ii).toNat []).getD 7 d0).ll), .sl (((((v1.getD 0 d0).ll).getD ((v1.getD 2 d0).ii).toNat []).getD 8 d0).ll), .sl (((((v1.getD 0 d0).ll).getD ((v1.getD 2 d0).ii).toNat []).getD 9 d0).ll)]).bindR fun r2 =>
 if 123 = 123 ∧ 0 ≤ (v1.getD 2 d0).ii ∧ (v1.getD 2 d0).ii < (((v1.getD 1 d0).ll).length : Int) then
 .norm [.sl ((v1.getD 0 d0).ll), .sl (((v1.getD 1 d0).ll).set (((v1.getD 2 d0).ii).toNat) (setRunD (((v1.getD 1 d0).ll).getD (((v1.getD 2 d0).ii).toNat) []) 0 [DC.s ((r2.getD 0 d0).ss), DC.s ((r2.getD 1 d0).ss), DC.s ((r2.getD 2 d0).ss), DC.s ((r2.getD 3 d0).ss), DC.b ((r2.getD 4 d0).bb), DC.i ((r2.getD 5 d0).ii), DC.s ((r2.getD 6 d0).ss), DC.sl ((r2.getD 7 d0).ll), DC.sl ((r2.getD 8 d0).ll), DC.sl ((r2.getD 9 d0).ll)])), .i ((v1.getD 2 d0).ii)]
 else
 .fail
 else
 .fail) 1 fun v3 =>
 .norm [.sl ((v3.getD 0 d0).ll), .sl ((v3.getD 1 d0).ll), .i (IntKind.i64.wrap ((v3.getD 2 d0).ii + (1 : Int)))]
 else
 .ex 0 [.sl ((v1.getD 1 d0).ll)]
noncomputable def E_laws_toInDefS (a : List DC) : Out :=
 if 0 ≤ (((a.getD 0 d0).ll).length : Int) ∧ (((a.getD 0 d0).ll).length : Int) < (LIM : Int) ∧ (((a.getD 0 d0).ll).length : Int) = (((a.getD 0 d0).ll).length : Int) ∧ 168 ≤ 1024 ∧ 0 < 10 ∧ dp 123 = false then
 Out.andThenB (Loop E_laws_toInDefSL1 [.sl ((a.getD 0 d0).ll), .sl (List.replicate (((a.getD 0 d0).ll).length : Int).toNat [DC.s [], DC.s [], DC.s [], DC.s [], DC.b false, DC.i 0, DC.s [], DC.sl [], DC.sl [], DC.sl []]), .i (0 : Int)]) 0 fun v4 =>
 .ret [.sl ((v4.getD 0 d0).ll)]
 else
 .fail
theorem eq_laws_toInDefS a : r_laws_toInDefS a = E_laws_toInDefS a := (Run_eq cfg 111 _ a).trans (by kernel_rfl)
noncomputable def E_laws_toEnumDefSL1 : List DC → Out := fun v1 =>
 if (decide ((v1.getD 2 d0).ii < (((v1.getD 0 d0).ll).length : Int))) = true then
 Out.andThenB (if 173 = 173 ∧ 0 ≤ (v1.getD 2 d0).ii ∧ (v1.getD 2 d0).ii < (((v1.getD 0 d0).ll).length : Int) then
 (r_laws_toEnumDef [.s (((((v1.getD 0 d0).ll).getD ((v1.getD 2 d0).ii).toNat []).getD 0 d0).ss), .s (((((v1.getD 0 d0).ll).getD ((v1.getD 2 d0).ii).toNat []).getD 1 d0).ss), .sl (((((v1.getD 0 d0).ll).getD ((v1.getD 2 d0).ii).toNat []).getD 2 d0).ll)]).bindR fun r2 =>
 if 145 = 145 ∧ 0 ≤ (v1.getD 2 d0).ii ∧ (v1.getD 2 d0).ii < (((v1.getD 1 d0).ll).length : Int) then
 .norm [.sl ((v1.getD 0 d0).ll), .sl (((v1.getD 1 d0).ll).set (((v1.getD 2 d0).ii).toNat) (setRunD (((v1.getD 1 d0).ll).getD (((v1.getD 2 d0).ii).toNat) []) 0 [DC.s ((r2.getD 0 d0).ss), DC.s ((r2.getD 1 d0).ss), DC.sl ((r2.getD 2 d0).ll)])), .i ((v1.getD 2 d0).ii)]
 else
 .fail
 else
 .fail) 1 fun v3 =>
 .norm [.sl ((v3.getD 0 d0).ll), .sl ((v3.getD 1 d0).ll), .i (IntKind.i64.wrap ((v3.getD 2 d0).ii + (1 : Int)))]
 else
 .ex 0 [.sl ((v1.getD 1 d0).ll)]
noncomputable def E_laws_toEnumDefS (a : List DC) : Out :=
 if 0 ≤ (((a.getD 0 d0).ll).length : Int) ∧ (((a.getD 0 d0).ll).length : Int) < (LIM : Int) ∧ (((a.getD 0 d0).ll).length : Int) = (((a.getD 0 d0).ll).length : Int) ∧ 56 ≤ 1024 ∧ 0 < 3 ∧ dp 145 = false then
 Out.andThenB (Loop E_laws_toEnumDefSL1 [.sl ((a.getD 0 d0).ll), .sl (List.replicate (((a.getD 0 d0).ll).length : Int).toNat [DC.s [], DC.s [], DC.sl []]), .i (0 : Int)]) 0 fun v4 =>
 .ret [.sl ((v4.getD 0 d0).ll)]
 else
 .fail
theorem eq_laws_toEnumDefS a : r_laws_toEnumDefS a = E_laws_toEnumDefS a := (Run_eq cfg 112 _ a).trans (by kernel_rfl)
noncomputable def E_laws_toDirSL1 : List DC → Out := fun v1 =>
 if (decide ((v1.getD 2 d0).ii < (((v1.getD 0 d0).ll).length : Int))) = true then
 Out.andThenB (if 177 = 177 ∧ 0 ≤ (v1.getD 2 d0).ii ∧ (v1.getD 2 d0).ii < (((v1.getD 0 d0).ll).length : Int) then
 (r_laws_toDir [.s (((((v1.getD 0 d0).ll).getD ((v1.getD 2 d0).ii).toNat []).getD 0 d0).ss), .sl (((((v1.getD 0 d0).ll).getD ((v1.getD 2 d0).ii).toNat []).getD 1 d0).ll)]).bindR fun r2 =>
 if 127 = 127 ∧ 0 ≤ (v1.getD 2 d0).ii ∧ (v1.getD 2 d0).ii < (((v1.getD 1 d0).ll).length : Int) then
 .norm [.sl ((v1.getD 0 d0).ll), .sl (((v1.getD 1 d0).ll).set (((v1.getD 2 d0).ii).toNat) (setRunD (((v1.getD 1 d0).ll).getD (((v1.getD 2 d0).ii).toNat) []) 0 [DC.s ((r2.getD 0 d0).ss), DC.sl ((r2.getD 1 d0).ll)])), .i ((v1.getD 2 d0).ii)]
 else
 .fail
 else
 .fail) 1 fun v3 =>
 .norm [.sl ((v3.getD 0 d0).ll), .sl ((v3.getD 1 d0).ll), .i (IntKind.i64.wrap ((v3.getD 2 d0).ii + (1 : Int)))]
 else
 .ex 0 [.sl ((v1.getD 1 d0).ll)]
noncomputable def E_laws_toDirS (a : List DC) : Out :=
 if 0 ≤ (((a.getD 0 d0).ll).length : Int) ∧ (((a.getD 0 d0).ll).length : Int) < (LIM : Int) ∧ (((a.getD 0 d0).ll).length : Int) = (((a.getD 0 d0).ll).length : Int) ∧ 40 ≤ 1024 ∧ 0 < 2 ∧ dp 127 = false then
 Out.andThenB (Loop E_laws_toDirSL1 [.sl ((a.getD 0 d0).ll), .sl (List.replicate (((a.getD 0 d0).ll).length : Int).toNat [DC.s [], DC.sl []]), .i (0 : Int)]) 0 fun v4 =>
 .ret [.sl ((v4.getD 0 d0).ll)]
 else
 .fail
theorem eq_laws_toDirS a : r_laws_toDirS a = E_laws_toDirS a := (Run_eq cfg 113 _ a).trans (by kernel_rfl)
noncomputable def E_spec_KindOf (a : List DC) : Out :=
 (r_spec_TypeAt [.sl ((a.getD 0 d0).ll), .sl ((a.getD 1 d0).ll), .sl ((a.getD 2 d0).ll), .s ((a.getD 3 d0).ss)]).bindR fun r1 =>
 if (decide ((r1.getD 0 d0).ii ≥ (0 : Int))) = true then
 if 84 = 84 ∧ 0 ≤ (r1.getD 0 d0).ii ∧ (r1.getD 0 d0).ii < (((a.getD 0 d0).ll).length : Int) then
 .ret [.i (((((a.getD 0 d0).ll).getD ((r1.getD 0 d0).ii).toNat []).getD 0 d0).ii)]
 else
 .fail
 else
 (r_spec_BuiltIn [.s ((a.getD 3 d0).ss)]).bindR fun r2 =>
 if (r2.getD 0 d0).bb = true then
 .ret [.i (1 : Int)]
 else
 .ret [.i (0 : Int)]
theorem eq_spec_KindOf a : r_spec_KindOf a = E_spec_KindOf a := (Run_eq cfg 129 _ a).trans (by kernel_rfl)
noncomputable def E_spec_l07CopyL1 : List DC → Out := fun v4 =>
 if (decide ((v4.getD 0 d0).ii < (((v4.getD 3 d0).ll).length : Int))) = true then
 Out.andThenB (if 121 = 121 ∧ 0 ≤ (v4.getD 0 d0).ii ∧ (v4.getD 0 d0).ii < (((v4.getD 3 d0).ll).length : Int) then
 (r_spec_l07Copy [.i (((((v4.getD 3 d0).ll).getD ((v4.getD 0 d0).ii).toNat []).getD 0 d0).ii), .s (((((v4.getD 3 d0).ll).getD ((v4.getD 0 d0).ii).toNat []).getD 1 d0).ss), .sl (((((v4.getD 3 d0).ll).getD ((v4.getD 0 d0).ii).toNat []).getD 2 d0).ll), .sl (((((v4.getD 3 d0).ll).getD ((v4.getD 0 d0).ii).toNat []).getD 3 d0).ll)]).bindR fun r5 =>
 if ((v4.getD 9 d0).ll).length + [[DC.i ((r5.getD 0 d0).ii), DC.s ((r5.getD 1 d0).ss), DC.sl ((r5.getD 2 d0).ll), DC.sl ((r5.getD 3 d0).ll)]].length < LIM ∧ 119 = 119 then
 .norm [.i ((v4.getD 0 d0).ii), .i ((v4.getD 1 d0).ii), .s ((v4.getD 2 d0).ss), .sl ((v4.getD 3 d0).ll), .sl ((v4.getD 4 d0).ll), .i ((v4.getD 5 d0).ii), .s ((v4.getD 6 d0).ss), .i ((v4.getD 7 d0).ii), .s ((v4.getD 8 d0).ss), .sl (((v4.getD 9 d0).ll) ++ [[DC.i ((r5.getD 0 d0).ii), DC.s ((r5.getD 1 d0).ss), DC.sl ((r5.getD 2 d0).ll), DC.sl ((r5.getD 3 d0).ll)]]), .sl ((v4.getD 10 d0).ll)]
 else
 .fail
 else
 .fail) 1 fun v6 =>
 .norm [.i (IntKind.i64.wrap ((v6.getD 0 d0).ii + (1 : Int))), .i ((v6.getD 1 d0).ii), .s ((v6.getD 2 d0).ss), .sl ((v6.getD 3 d0).ll), .sl ((v6.getD 4 d0).ll), .i ((v6.getD 5 d0).ii), .s ((v6.getD 6 d0).ss), .i ((v6.getD 7 d0).ii), .s ((v6.getD 8 d0).ss), .sl ((v6.getD 9 d0).ll), .sl ((v6.getD 10 d0).ll)]
 else
 .ex 0 [.i ((v4.getD 5 d0).ii), .s ((v4.getD 6 d0).ss), .i ((v4.getD 7 d0).ii), .s ((v4.getD 8 d0).ss), .sl ((v4.getD 9 d0).ll), .sl ((v4.getD 10 d0).ll)]
noncomputable def E_spec_l07Copy (a : List DC) : Out :=
 if ([] : List (List DC)).length + ((a.getD 3 d0).ll).length < LIM then
 Out.andThenB (Loop E_spec_l07CopyL1 [.i (0 : Int), .i ((a.getD 0 d0).ii), .s ((a.getD 1 d0).ss), .sl ((a.getD 2 d0).ll), .sl ((a.getD 3 d0).ll), .i (0 : Int), .s [], .i ((a.getD 0 d0).ii), .s ((a.getD 1 d0).ss), .sl [], .sl (([] : List (List DC)) ++ ((a.getD 3 d0).ll))]) 0 fun v7 =>
 .ret [.i ((v7.getD 2 d0).ii), .s ((v7.getD 3 d0).ss), .sl ((v7.getD 4 d0).ll), .sl ((v7.getD 5 d0).ll)]
 else
 .fail
theorem eq_spec_l07Copy a : r_spec_l07Copy a = E_spec_l07Copy a := (Run_eq cfg 130 _ a).trans (by kernel_rfl)
noncomputable def E_spec_l10ArgsL1 : List DC → Out := fun v1 =>
 if (decide ((v1.getD 2 d0).ii < (((v1.getD 0 d0).ll).length : Int))) = true then
 Out.andThenB (if 160 = 160 ∧ 0 ≤ (v1.getD 2 d0).ii ∧ (v1.getD 2 d0).ii < (((v1.getD 0 d0).ll).length : Int) then
 if 160 = 160 ∧ 0 ≤ (v1.getD 2 d0).ii ∧ (v1.getD 2 d0).ii < (((v1.getD 0 d0).ll).length : Int) then
 (r_spec_l07Copy [.i (((((v1.getD 0 d0).ll).getD ((v1.getD 2 d0).ii).toNat []).getD 1 d0).ii), .s (((((v1.getD 0 d0).ll).getD ((v1.getD 2 d0).ii).toNat []).getD 2 d0).ss), .sl (((((v1.getD 0 d0).ll).getD ((v1.getD 2 d0).ii).toNat []).getD 3 d0).ll), .sl (((((v1.getD 0 d0).ll).getD ((v1.getD 2 d0).ii).toNat []).getD 4 d0).ll)]).bindR fun r2 =>
 if ((v1.getD 1 d0).ll).length + [[DC.s (((((v1.getD 0 d0).ll).getD ((v1.getD 2 d0).ii).toNat []).getD 0 d0).ss), DC.i ((r2.getD 0 d0).ii), DC.s ((r2.getD 1 d0).ss), DC.sl ((r2.getD 2 d0).ll), DC.sl ((r2.getD 3 d0).ll)]].length < LIM ∧ 125 = 125 then
 .norm [.sl ((v1.getD 0 d0).ll), .sl (((v1.getD 1 d0).ll) ++ [[DC.s (((((v1.getD 0 d0).ll).getD ((v1.getD 2 d0).ii).toNat []).getD 0 d0).ss), DC.i ((r2.getD 0 d0).ii), DC.s ((r2.getD 1 d0).ss), DC.sl ((r2.getD 2 d0).ll), DC.sl ((r2.getD 3 d0).ll)]]), .i ((v1.getD 2 d0).ii)]
 else
 .fail
 else
 .fail
 else
 .fail) 1 fun v3 =>
 .norm [.sl ((v3.getD 0 d0).ll), .sl ((v3.getD 1 d0).ll), .i (IntKind.i64.wrap ((v3.getD 2 d0).ii + (1 : Int)))]
 else
 .ex 0 [.sl ((v1.getD 1 d0).ll)]
noncomputable def E_spec_l10Args (a : List DC) : Out :=
 Out.andThenB (Loop E_spec_l10ArgsL1 [.sl ((a.getD 0 d0).ll), .sl [], .i (0 : Int)]) 0 fun v4 =>
 .ret [.sl ((v4.getD 0 d0).ll)]
theorem eq_spec_l10Args a : r_spec_l10Args a = E_spec_l10Args a := (Run_eq cfg 131 _ a).trans (by kernel_rfl)
noncomputable def E_impl_KindOf (a : List DC) : Out :=
 (r_impl_typeDef [.sl ((a.getD 0 d0).ll), .sl ((a.getD 1 d0).ll), .sl ((a.getD 2 d0).ll), .s ((a.getD 3 d0).ss)]).bindR fun r1 =>
 Out.andThenB (if (r1.getD 11 d0).bb = true then
 .ret [.i ((r1.getD 0 d0).ii)]
 else
 (r_impl_BuiltIn [.s ((a.getD 3 d0).ss)]).bindR fun r2 =>
 if (r2.getD 0 d0).bb = true then
 .ret [.i (1 : Int)]
 else
 .norm []) 0 fun v3 =>
 .ret [.i (0 : Int)]
theorem eq_impl_KindOf a : r_impl_KindOf a = E_impl_KindOf a := (Run_eq cfg 132 _ a).trans (by kernel_rfl)
noncomputable def E_impl_TypeAt (a : List DC) : Out :=
 (r_impl_named [.sl ((a.getD 0 d0).ll), .s ((a.getD 3 d0).ss)]).bindR fun r1 =>
 .ret [.i ((r1.getD 0 d0).ii)]
theorem eq_impl_TypeAt a : r_impl_TypeAt a = E_impl_TypeAt a := (Run_eq cfg 119 _ a).trans (by kernel_rfl)
noncomputable def E_slices_IndexFunc_impl_FieldDef__impl_fieldOf_1L1 : List DC → Out := fun v1 =>
 if (decide ((v1.getD 2 d0).ii < (v1.getD 1 d0).ii)) = true then
 Out.andThenB (if 32 = 32 ∧ 0 ≤ (v1.getD 2 d0).ii ∧ (v1.getD 2 d0).ii < (((v1.getD 0 d0).ll).length : Int) then
 (r_impl_fieldOf_1 [.s (((((v1.getD 0 d0).ll).getD ((v1.getD 2 d0).ii).toNat []).getD 0 d0).ss), .s (((((v1.getD 0 d0).ll).getD ((v1.getD 2 d0).ii).toNat []).getD 1 d0).ss), .sl (((((v1.getD 0 d0).ll).getD ((v1.getD 2 d0).ii).toNat []).getD 2 d0).ll), .s (((((v1.getD 0 d0).ll).getD ((v1.getD 2 d0).ii).toNat []).getD 3 d0).ss), .s (((((v1.getD 0 d0).ll).getD ((v1.getD 2 d0).ii).toNat []).getD 4 d0).ss), .sl (((((v1.getD 0 d0).ll).getD ((v1.getD 2 d0).ii).toNat []).getD 5 d0).ll), .s ((v1.getD 3 d0).ss)]).bindR fun r2 =>
 if (r2.getD 0 d0).bb = true then
 .ret [.i ((v1.getD 2 d0).ii), .s ((r2.getD 1 d0).ss)]
 else
 .norm [.sl ((v1.getD 0 d0).ll), .i ((v1.getD 1 d0).ii), .i ((v1.getD 2 d0).ii), .s ((r2.getD 1 d0).ss)]
 else
 .fail) 1 fun v3 =>
 .norm [.sl ((v3.getD 0 d0).ll), .i ((v3.getD 1 d0).ii), .i (IntKind.i64.wrap ((v3.getD 2 d0).ii + (1 : Int))), .s ((v3.getD 3 d0).ss)]
 else
 .ex 0 [.s ((v1.getD 3 d0).ss)]
noncomputable def E_slices_IndexFunc_impl_FieldDef__impl_fieldOf_1 (a : List DC) : Out :=
 Out.andThenB (Loop E_slices_IndexFunc_impl_FieldDef__impl_fieldOf_1L1 [.sl ((a.getD 0 d0).ll), .i (((a.getD 0 d0).ll).length : Int), .i (0 : Int), .s ((a.getD 1 d0).ss)]) 0 fun v4 =>
 .ret [.i (-1 : Int), .s ((v4.getD 0 d0).ss)]
theorem eq_slices_IndexFunc_impl_FieldDef__impl_fieldOf_1 a : r_slices_IndexFunc_impl_FieldDef__impl_fieldOf_1 a = E_slices_IndexFunc_impl_FieldDef__impl_fieldOf_1 a := (Run_eq cfg 133 _ a).trans (by kernel_rfl)
noncomputable def E_impl_cloneValueL1 : List DC → Out := fun v5 =>
 if (decide ((v5.getD 2 d0).ii < (v5.getD 1 d0).ii)) = true then
 Out.andThenB (if 121 = 121 ∧ 0 ≤ (v5.getD 2 d0).ii ∧ (v5.getD 2 d0).ii < (((v5.getD 0 d0).ll).length : Int) then
 (r_impl_cloneValue [.i (((((v5.getD 0 d0).ll).getD ((v5.getD 2 d0).ii).toNat []).getD 0 d0).ii), .s (((((v5.getD 0 d0).ll).getD ((v5.getD 2 d0).ii).toNat []).getD 1 d0).ss), .sl (((((v5.getD 0 d0).ll).getD ((v5.getD 2 d0).ii).toNat []).getD 2 d0).ll), .sl (((((v5.getD 0 d0).ll).getD ((v5.getD 2 d0).ii).toNat []).getD 3 d0).ll)]).bindR fun r6 =>
 if ((v5.getD 7 d0).ll).length + [[DC.i ((r6.getD 0 d0).ii), DC.s ((r6.getD 1 d0).ss), DC.sl ((r6.getD 2 d0).ll), DC.sl ((r6.getD 3 d0).ll)]].length < LIM ∧ 119 = 119 then
 .norm [.sl ((v5.getD 0 d0).ll), .i ((v5.getD 1 d0).ii), .i ((v5.getD 2 d0).ii), .i ((v5.getD 3 d0).ii), .s ((v5.getD 4 d0).ss), .i ((v5.getD 5 d0).ii), .s ((v5.getD 6 d0).ss), .sl (((v5.getD 7 d0).ll) ++ [[DC.i ((r6.getD 0 d0).ii), DC.s ((r6.getD 1 d0).ss), DC.sl ((r6.getD 2 d0).ll), DC.sl ((r6.getD 3 d0).ll)]]), .sl ((v5.getD 8 d0).ll)]
 else
 .fail
 else
 .fail) 1 fun v7 =>
 .norm [.sl ((v7.getD 0 d0).ll), .i ((v7.getD 1 d0).ii), .i (IntKind.i64.wrap ((v7.getD 2 d0).ii + (1 : Int))), .i ((v7.getD 3 d0).ii), .s ((v7.getD 4 d0).ss), .i ((v7.getD 5 d0).ii), .s ((v7.getD 6 d0).ss), .sl ((v7.getD 7 d0).ll), .sl ((v7.getD 8 d0).ll)]
 else
 .ex 0 [.i ((v5.getD 3 d0).ii), .s ((v5.getD 4 d0).ss), .i ((v5.getD 5 d0).ii), .s ((v5.getD 6 d0).ss), .sl ((v5.getD 7 d0).ll), .sl ((v5.getD 8 d0).ll)]
noncomputable def E_impl_cloneValue (a : List DC) : Out :=
 (r_slices_Clone_string [.sl ((a.getD 3 d0).ll)]).bindR fun r1 =>
 Out.andThenB (Loop E_impl_cloneValueL1 [.sl ((a.getD 2 d0).ll), .i (((a.getD 2 d0).ll).length : Int), .i (0 : Int), .i (0 : Int), .s [], .i ((a.getD 0 d0).ii), .s ((a.getD 1 d0).ss), .sl [], .sl ((r1.getD 0 d0).ll)]) 0 fun v8 =>
 .ret [.i ((v8.getD 2 d0).ii), .s ((v8.getD 3 d0).ss), .sl ((v8.getD 4 d0).ll), .sl ((v8.getD 5 d0).ll)]
theorem eq_impl_cloneValue a : r_impl_cloneValue a = E_impl_cloneValue a := (Run_eq cfg 135 _ a).trans (by kernel_rfl)
noncomputable def E_impl_cloneArgsL1 : List DC → Out := fun v4 =>
 if (decide ((v4.getD 3 d0).ii < (v4.getD 2 d0).ii)) = true then
 Out.andThenB (if 160 = 160 ∧ 0 ≤ (v4.getD 3 d0).ii ∧ (v4.getD 3 d0).ii < (((v4.getD 1 d0).ll).length : Int) then
 (r_impl_cloneValue [.i (((((v4.getD 1 d0).ll).getD ((v4.getD 3 d0).ii).toNat []).getD 1 d0).ii), .s (((((v4.getD 1 d0).ll).getD ((v4.getD 3 d0).ii).toNat []).getD 2 d0).ss), .sl (((((v4.getD 1 d0).ll).getD ((v4.getD 3 d0).ii).toNat []).getD 3 d0).ll), .sl (((((v4.getD 1 d0).ll).getD ((v4.getD 3 d0).ii).toNat []).getD 4 d0).ll)]).bindR fun r5 =>
 if ((v4.getD 0 d0).ll).length + [[DC.s (((((v4.getD 1 d0).ll).getD ((v4.getD 3 d0).ii).toNat []).getD 0 d0).ss), DC.i ((r5.getD 0 d0).ii), DC.s ((r5.getD 1 d0).ss), DC.sl ((r5.getD 2 d0).ll), DC.sl ((r5.getD 3 d0).ll)]].length < LIM ∧ 125 = 125 then
 .norm [.sl (((v4.getD 0 d0).ll) ++ [[DC.s (((((v4.getD 1 d0).ll).getD ((v4.getD 3 d0).ii).toNat []).getD 0 d0).ss), DC.i ((r5.getD 0 d0).ii), DC.s ((r5.getD 1 d0).ss), DC.sl ((r5.getD 2 d0).ll), DC.sl ((r5.getD 3 d0).ll)]]), .sl ((v4.getD 1 d0).ll), .i ((v4.getD 2 d0).ii), .i ((v4.getD 3 d0).ii)]
 else
 .fail
 else
 .fail) 1 fun v6 =>
 .norm [.sl ((v6.getD 0 d0).ll), .sl ((v6.getD 1 d0).ll), .i ((v6.getD 2 d0).ii), .i (IntKind.i64.wrap ((v6.getD 3 d0).ii + (1 : Int)))]
 else
 .ex 0 [.sl ((v4.getD 0 d0).ll)]
noncomputable def E_impl_cloneArgs (a : List DC) : Out :=
 Out.andThenB (Loop E_impl_cloneArgsL1 [.sl [], .sl ((a.getD 0 d0).ll), .i (((a.getD 0 d0).ll).length : Int), .i (0 : Int)]) 0 fun v7 =>
 .ret [.sl ((v7.getD 0 d0).ll)]
theorem eq_impl_cloneArgs a : r_impl_cloneArgs a = E_impl_cloneArgs a := (Run_eq cfg 136 _ a).trans (by kernel_rfl)
noncomputable def E_laws_eqValue (a : List DC) : Out :=
 if ((a.getD 0 d0).ii != (a.getD 4 d0).ii) = true then
 .ret [.b false]
 else
 if (!((a.getD 1 d0).ss == (a.getD 5 d0).ss)) = true then
 .ret [.b false]
 else
 (r_laws_eqValueS [.sl ((a.getD 2 d0).ll), .sl ((a.getD 6 d0).ll)]).bindR fun r1 =>
 if (!((r1.getD 0 d0).bb)) = true then
 .ret [.b false]
 else
 (r_laws_eqStringS [.sl ((a.getD 3 d0).ll), .sl ((a.getD 7 d0).ll)]).bindR fun r2 =>
 if (!((r2.getD 0 d0).bb)) = true then
 .ret [.b false]
 else
 .ret [.b true]
theorem eq_laws_eqValue a : r_laws_eqValue a = E_laws_eqValue a := (Run_eq cfg 137 _ a).trans (by kernel_rfl)
noncomputable def E_laws_eqArgSL1 : List DC → Out := fun v1 =>
 if (decide ((v1.getD 2 d0).ii < (((v1.getD 0 d0).ll).length : Int))) = true then
 Out.andThenB (if 160 = 160 ∧ 0 ≤ (v1.getD 2 d0).ii ∧ (v1.getD 2 d0).ii < (((v1.getD 0 d0).ll).length : Int) then
 if 160 = 160 ∧ 0 ≤ (v1.getD 2 d0).ii ∧ (v1.getD 2 d0).ii < (((v1.getD 1 d0).ll).length : Int) then
 (r_laws_eqArg [.s (((((v1.getD 0 d0).ll).getD ((v1.getD 2 d0).ii).toNat []).getD 0 d0).ss), .i (((((v1.getD 0 d0).ll).getD ((v1.getD 2 d0).ii).toNat []).getD 1 d0).ii), .s (((((v1.getD 0 d0).ll).getD ((v1.getD 2 d0).ii).toNat []).getD 2 d0).ss), .sl (((((v1.getD 0 d0).ll).getD ((v1.getD 2 d0).ii).toNat []).getD 3 d0).ll), .sl (((((v1.getD 0 d0).ll).getD ((v1.getD 2 d0).ii).toNat []).getD 4 d0).ll), .s (((((v1.getD 1 d0).ll).getD ((v1.getD 2 d0).ii).toNat []).getD 0 d0).ss), .i (((((v1.getD 1 d0).ll).getD ((v1.getD 2 d0).ii).toNat []).getD 1 d0).ii), .s (((((v1.getD 1 d0).ll).getD ((v1.getD 2 d0).ii).toNat []).getD 2 d0).ss), .sl (((((v1.getD 1 d0).ll).getD ((v1.getD 2 d0).ii).toNat []).getD 3 d0).ll), .sl (((((v1.getD 1 d0).ll).getD ((v1.getD 2 d0).ii).toNat []).getD 4 d0).ll)]).bindR fun r2 =>
 if (!((r2.getD 0 d0).bb)) = true then
 .ret [.b false]
 else
 .norm [.sl ((v1.getD 0 d0).ll), .sl ((v1.getD 1 d0).ll), .i ((v1.getD 2 d0).ii)]
 else
 .fail
 else
 .fail) 1 fun v3 =>
 .norm [.sl ((v3.getD 0 d0).ll), .sl ((v3.getD 1 d0).ll), .i (IntKind.i64.wrap ((v3.getD 2 d0).ii + (1 : Int)))]
 else
 .ex 0 []
noncomputable def E_laws_eqArgS (a : List DC) : Out :=
 if ((((a.getD 0 d0).ll).length : Int) != (((a.getD 1 d0).ll).length : Int)) = true then
 .ret [.b false]
 else
 Out.andThenB (Loop E_laws_eqArgSL1 [.sl ((a.getD 0 d0).ll), .sl ((a.getD 1 d0).ll), .i (0 : Int)]) 0 fun v4 =>
 .ret [.b true]
theorem eq_laws_eqArgS a : r_laws_eqArgS a = E_laws_eqArgS a := (Run_eq cfg 138 _ a).trans (by kernel_rfl)
noncomputable def E_laws_eqStringSL1 : List DC → Out := fun v1 =>
 if (decide ((v1.getD 2 d0).ii < (((v1.getD 0 d0).ll).length : Int))) = true then
 Out.andThenB (if 9 = 9 ∧ 0 ≤ (v1.getD 2 d0).ii ∧ (v1.getD 2 d0).ii < (((v1.getD 0 d0).ll).length : Int) then
 if 9 = 9 ∧ 0 ≤ (v1.getD 2 d0).ii ∧ (v1.getD 2 d0).ii < (((v1.getD 1 d0).ll).length : Int) then
 if (!(((((v1.getD 0 d0).ll).getD ((v1.getD 2 d0).ii).toNat []).getD 0 d0).ss == ((((v1.getD 1 d0).ll).getD ((v1.getD 2 d0).ii).toNat []).getD 0 d0).ss)) = true then
 .ret [.b false]
 else
 .norm [.sl ((v1.getD 0 d0).ll), .sl ((v1.getD 1 d0).ll), .i ((v1.getD 2 d0).ii)]
 else
 .fail
 else
 .fail) 1 fun v2 =>
 .norm [.sl ((v2.getD 0 d0).ll), .sl ((v2.getD 1 d0).ll), .i (IntKind.i64.wrap ((v2.getD 2 d0).ii + (1 : Int)))]
 else
 .ex 0 []
noncomputable def E_laws_eqStringS (a : List DC) : Out :=
 if ((((a.getD 0 d0).ll).length : Int) != (((a.getD 1 d0).ll).length : Int)) = true then
 .ret [.b false]
 else
 Out.andThenB (Loop E_laws_eqStringSL1 [.sl ((a.getD 0 d0).ll), .sl ((a.getD 1 d0).ll), .i (0 : Int)]) 0 fun v3 =>
 .ret [.b true]
theorem eq_laws_eqStringS a : r_laws_eqStringS a = E_laws_eqStringS a := (Run_eq cfg 29 _ a).trans (by kernel_rfl)
noncomputable def E_laws_eqFieldDefSL1 : List DC → Out := fun v1 =>
 if (decide ((v1.getD 2 d0).ii < (((v1.getD 0 d0).ll).length : Int))) = true then
 Out.andThenB (if 32 = 32 ∧ 0 ≤ (v1.getD 2 d0).ii ∧ (v1.getD 2 d0).ii < (((v1.getD 0 d0).ll).length : Int) then
 if 32 = 32 ∧ 0 ≤ (v1.getD 2 d0).ii ∧ (v1.getD 2 d0).ii < (((v1.getD 1 d0).ll).length : Int) then
 (r_laws_eqFieldDef [.s (((((v1.getD 0 d0).ll).getD ((v1.getD 2 d0).ii).toNat []).getD 0 d0).ss), .s (((((v1.getD 0 d0).ll).getD ((v1.getD 2 d0).ii).toNat []).getD 1 d0).ss), .sl (((((v1.getD 0 d0).ll).getD ((v1.getD 2 d0).ii).toNat []).getD 2 d0).ll), .s (((((v1.getD 0 d0).ll).getD ((v1.getD 2 d0).ii).toNat []).getD 3 d0).ss), .s (((((v1.getD 0 d0).ll).getD ((v1.getD 2 d0).ii).toNat []).getD 4 d0).ss), .sl (((((v1.getD 0 d0).ll).getD ((v1.getD 2 d0).ii).toNat []).getD 5 d0).ll), .s (((((v1.getD 1 d0).ll).getD ((v1.getD 2 d0).ii).toNat []).getD 0 d0).ss), .s (((((v1.getD 1 d0).ll).getD ((v1.getD 2 d0).ii).toNat []).getD 1 d0).ss), .sl (((((v1.getD 1 d0).ll).getD ((v1.getD 2 d0).ii).toNat []).getD 2 d0).ll), .s (((((v1.getD 1 d0).ll).getD ((v1.getD 2 d0).ii).toNat []).getD 3 d0).ss), .s (((((v1.getD 1 d0).ll).getD ((v1.getD 2 d0).ii).toNat []).getD 4 d0).ss), .sl (((((v1.getD 1 d0).ll).getD ((v1.getD 2 d0).ii).toNat []).getD 5 d0).ll)]).bindR fun r2 =>
 if (!((r2.getD 0 d0).bb)) = true then
 .ret [.b false]
 else
 .norm [.sl ((v1.getD 0 d0).ll), .sl ((v1.getD 1 d0).ll), .i ((v1.getD 2 d0).ii)]
 else
 .fail
 else
 .fail) 1 fun v3 =>
 .norm [.sl ((v3.getD 0 d0).ll), .sl ((v3.getD 1 d0).ll), .i (IntKind.i64.wrap ((v3.getD 2 d0).ii + (1 : Int)))]
 else
 .ex 0 []
noncomputable def E_laws_eqFieldDefS (a : List DC) : Out :=
 if ((((a.getD 0 d0).ll).length : Int) != (((a.getD 1 d0).ll).length : Int)) = true then
 .ret [.b false]
 else
 Out.andThenB (Loop E_laws_eqFieldDefSL1 [.sl ((a.getD 0 d0).ll), .sl ((a.getD 1 d0).ll), .i (0 : Int)]) 0 fun v4 =>
 .ret [.b true]
theorem eq_laws_eqFieldDefS a : r_laws_eqFieldDefS a = E_laws_eqFieldDefS a := (Run_eq cfg 117 _ a).trans (by kernel_rfl)
noncomputable def E_laws_eqEnumDefSL1 : List DC → Out := fun v1 =>
 if (decide ((v1.getD 2 d0).ii < (((v1.getD 0 d0).ll).length : Int))) = true then
 Out.andThenB (if 145 = 145 ∧ 0 ≤ (v1.getD 2 d0).ii ∧ (v1.getD 2 d0).ii < (((v1.getD 0 d0).ll).length : Int) then
 if 145 = 145 ∧ 0 ≤ (v1.getD 2 d0).ii ∧ (v1.getD 2 d0).ii < (((v1.getD 1 d0).ll).length : Int) then
 (r_laws_eqEnumDef [.s (((((v1.getD 0 d0).ll).getD ((v1.getD 2 d0).ii).toNat []).getD 0 d0).ss), .s (((((v1.getD 0 d0).ll).getD ((v1.getD 2 d0).ii).toNat []).getD 1 d0).ss), .sl (((((v1.getD 0 d0).ll).getD ((v1.getD 2 d0).ii).toNat []).getD 2 d0).ll), .s (((((v1.getD 1 d0).ll).getD ((v1.getD 2 d0).ii).toNat []).getD 0 d0).ss), .s (((((v1.getD 1 d0).ll).getD ((v1.getD 2 d0).ii).toNat []).getD 1 d0).ss), .sl (((((v1.getD 1 d0).ll).getD ((v1.getD 2 d0).ii).toNat []).getD 2 d0).ll)]).bindR fun r2 =>
 if (!((r2.getD 0 d0).bb)) = true then
 .ret [.b false]
 else
 .norm [.sl ((v1.getD 0 d0).ll), .sl ((v1.getD 1 d0).ll), .i ((v1.getD 2 d0).ii)]
 else
 .fail
 else
 .fail) 1 fun v3 =>
 .norm [.sl ((v3.getD 0 d0).ll), .sl ((v3.getD 1 d0).ll), .i (IntKind.i64.wrap ((v3.getD 2 d0).ii + (1 : Int)))]
 else
 .ex 0 []
noncomputable def E_laws_eqEnumDefS (a : List DC) : Out :=
 if ((((a.getD 0 d0).ll).length : Int) != (((a.getD 1 d0).ll).length : Int)) = true then
 .ret [.b false]
 else
 Out.andThenB (Loop E_laws_eqEnumDefSL1 [.sl ((a.getD 0 d0).ll), .sl ((a.getD 1 d0).ll), .i (0 : Int)]) 0 fun v4 =>
 .ret [.b true]
theorem eq_laws_eqEnumDefS a : r_laws_eqEnumDefS a = E_laws_eqEnumDefS a := (Run_eq cfg 118 _ a).trans (by kernel_rfl)
noncomputable def E_laws_szFieldDef (a : List DC) : Out :=
 if (decide ((IntKind.i64.wrap ((a.getD 6 d0).ii - (((a.getD 0 d0).ss).length : Int))) < (0 : Int))) = true then
 .ret [.i (-1 : Int)]
 else
 if (decide ((IntKind.i64.wrap ((IntKind.i64.wrap ((a.getD 6 d0).ii - (((a.getD 0 d0).ss).length : Int))) - (((a.getD 1 d0).ss).length : Int))) < (0 : Int))) = true then
 .ret [.i (-1 : Int)]
 else
 (r_laws_szInDefS [.sl ((a.getD 2 d0).ll), .i (IntKind.i64.wrap ((IntKind.i64.wrap ((a.getD 6 d0).ii - (((a.getD 0 d0).ss).length : Int))) - (((a.getD 1 d0).ss).length : Int)))]).bindR fun r1 =>
 if (decide ((r1.getD 0 d0).ii < (0 : Int))) = true then
 .ret [.i (-1 : Int)]
 else
 (r_laws_szType [.s ((a.getD 3 d0).ss), .s ((a.getD 4 d0).ss), .i ((r1.getD 0 d0).ii)]).bindR fun r2 =>
 if (decide ((r2.getD 0 d0).ii < (0 : Int))) = true then
 .ret [.i (-1 : Int)]
 else
 (r_laws_szDirS [.sl ((a.getD 5 d0).ll), .i ((r2.getD 0 d0).ii)]).bindR fun r3 =>
 if (decide ((r3.getD 0 d0).ii < (0 : Int))) = true then
 .ret [.i (-1 : Int)]
 else
 .ret [.i ((r3.getD 0 d0).ii)]
theorem eq_laws_szFieldDef a : r_laws_szFieldDef a = E_laws_szFieldDef a := (Run_eq cfg 139 _ a).trans (by kernel_rfl)
noncomputable def E_laws_szInDef (a : List DC) : Out :=
 if (decide ((IntKind.i64.wrap ((a.getD 10 d0).ii - (((a.getD 0 d0).ss).length : Int))) < (0 : Int))) = true then
 .ret [.i (-1 : Int)]
 else
 if (decide ((IntKind.i64.wrap ((IntKind.i64.wrap ((a.getD 10 d0).ii - (((a.getD 0 d0).ss).length : Int))) - (((a.getD 1 d0).ss).length : Int))) < (0 : Int))) = true then
 .ret [.i (-1 : Int)]
 else
 (r_laws_szType [.s ((a.getD 2 d0).ss), .s ((a.getD 3 d0).ss), .i (IntKind.i64.wrap ((IntKind.i64.wrap ((a.getD 10 d0).ii - (((a.getD 0 d0).ss).length : Int))) - (((a.getD 1 d0).ss).length : Int)))]).bindR fun r1 =>
 if (decide ((r1.getD 0 d0).ii < (0 : Int))) = true then
 .ret [.i (-1 : Int)]
 else
 (r_laws_szValue [.i ((a.getD 5 d0).ii), .s ((a.getD 6 d0).ss), .sl ((a.getD 7 d0).ll), .sl ((a.getD 8 d0).ll), .i ((r1.getD 0 d0).ii)]).bindR fun r2 =>
 if (decide ((r2.getD 0 d0).ii < (0 : Int))) = true then
 .ret [.i (-1 : Int)]
 else
 (r_laws_szDirS [.sl ((a.getD 9 d0).ll), .i ((r2.getD 0 d0).ii)]).bindR fun r3 =>
 if (decide ((r3.getD 0 d0).ii < (0 : Int))) = true then
 .ret [.i (-1 : Int)]
 else
 .ret [.i ((r3.getD 0 d0).ii)]
theorem eq_laws_szInDef a : r_laws_szInDef a = E_laws_szInDef a := (Run_eq cfg 140 _ a).trans (by kernel_rfl)
noncomputable def E_laws_szEnumDef (a : List DC) : Out :=
 if (decide ((IntKind.i64.wrap ((a.getD 3 d0).ii - (((a.getD 0 d0).ss).length : Int))) < (0 : Int))) = true then
 .ret [.i (-1 : Int)]
 else
 if (decide ((IntKind.i64.wrap ((IntKind.i64.wrap ((a.getD 3 d0).ii - (((a.getD 0 d0).ss).length : Int))) - (((a.getD 1 d0).ss).length : Int))) < (0 : Int))) = true then
 .ret [.i (-1 : Int)]
 else
 (r_laws_szDirS [.sl ((a.getD 2 d0).ll), .i (IntKind.i64.wrap ((IntKind.i64.wrap ((a.getD 3 d0).ii - (((a.getD 0 d0).ss).length : Int))) - (((a.getD 1 d0).ss).length : Int)))]).bindR fun r1 =>
 if (decide ((r1.getD 0 d0).ii < (0 : Int))) = true then
 .ret [.i (-1 : Int)]
 else
 .ret [.i ((r1.getD 0 d0).ii)]
theorem eq_laws_szEnumDef a : r_laws_szEnumDef a = E_laws_szEnumDef a := (Run_eq cfg 141 _ a).trans (by kernel_rfl)
noncomputable def E_laws_szDir (a : List DC) : Out :=
 if (decide ((IntKind.i64.wrap ((a.getD 2 d0).ii - (((a.getD 0 d0).ss).length : Int))) < (0 : Int))) = true then
 .ret [.i (-1 : Int)]
 else
 (r_laws_szArgS [.sl ((a.getD 1 d0).ll), .i (IntKind.i64.wrap ((a.getD 2 d0).ii - (((a.getD 0 d0).ss).length : Int)))]).bindR fun r1 =>
 if (decide ((r1.getD 0 d0).ii < (0 : Int))) = true then
 .ret [.i (-1 : Int)]
 else
 .ret [.i ((r1.getD 0 d0).ii)]
theorem eq_laws_szDir a : r_laws_szDir a = E_laws_szDir a := (Run_eq cfg 142 _ a).trans (by kernel_rfl)
noncomputable def E_laws_toFieldDef (a : List DC) : Out :=
 (r_laws_toInDefS [.sl ((a.getD 2 d0).ll)]).bindR fun r1 =>
 (r_laws_toType [.s ((a.getD 3 d0).ss), .s ((a.getD 4 d0).ss)]).bindR fun r2 =>
 (r_laws_toDirS [.sl ((a.getD 5 d0).ll)]).bindR fun r3 =>
 .ret [.s ((a.getD 0 d0).ss), .s ((a.getD 1 d0).ss), .sl ((r1.getD 0 d0).ll), .s ((r2.getD 0 d0).ss), .s ((r2.getD 1 d0).ss), .sl ((r3.getD 0 d0).ll)]
theorem eq_laws_toFieldDef a : r_laws_toFieldDef a = E_laws_toFieldDef a := (Run_eq cfg 143 _ a).trans (by kernel_rfl)
noncomputable def E_laws_toInDef (a : List DC) : Out :=
 (r_laws_toType [.s ((a.getD 2 d0).ss), .s ((a.getD 3 d0).ss)]).bindR fun r1 =>
 (r_laws_toValue [.i ((a.getD 5 d0).ii), .s ((a.getD 6 d0).ss), .sl ((a.getD 7 d0).ll), .sl ((a.getD 8 d0).ll)]).bindR fun r2 =>
 (r_laws_toDirS [.sl ((a.getD 9 d0).ll)]).bindR fun r3 =>
 .ret [.s ((a.getD 0 d0).ss), .s ((a.getD 1 d0).ss), .s ((r1.getD 0 d0).ss), .s ((r1.getD 1 d0).ss), .b ((a.getD 4 d0).bb), .i ((r2.getD 0 d0).ii), .s ((r2.getD 1 d0).ss), .sl ((r2.getD 2 d0).ll), .sl ((r2.getD 3 d0).ll), .sl ((r3.getD 0 d0).ll)]
theorem eq_laws_toInDef a : r_laws_toInDef a = E_laws_toInDef a := (Run_eq cfg 144 _ a).trans (by kernel_rfl)
noncomputable def E_laws_toEnumDef (a : List DC) : Out :=
 (r_laws_toDirS [.sl ((a.getD 2 d0).ll)]).bindR fun r1 =>
 .ret [.s ((a.getD 0 d0).ss), .s ((a.getD 1 d0).ss), .sl ((r1.getD 0 d0).ll)]
theorem eq_laws_toEnumDef a : r_laws_toEnumDef a = E_laws_toEnumDef a := (Run_eq cfg 145 _ a).trans (by kernel_rfl)
noncomputable def E_laws_toDir (a : List DC) : Out :=
 (r_laws_toArgS [.sl ((a.getD 1 d0).ll)]).bindR fun r1 =>
 .ret [.s ((a.getD 0 d0).ss), .sl ((r1.getD 0 d0).ll)]
theorem eq_laws_toDir a : r_laws_toDir a = E_laws_toDir a := (Run_eq cfg 146 _ a).trans (by kernel_rfl)
noncomputable def E_spec_BuiltIn (a : List DC) : Out :=
 Out.andThen (if ((a.getD 0 d0).ss == ([73, 110, 116] : List UInt8)) = true then
 .norm [.b true]
 else
 if ((a.getD 0 d0).ss == ([70, 108, 111, 97, 116] : List UInt8)) = true then
 .norm [.b true]
 else
 if ((a.getD 0 d0).ss == ([83, 116, 114, 105, 110, 103] : List UInt8)) = true then
 .norm [.b true]
 else
 if ((a.getD 0 d0).ss == ([66, 111, 111, 108, 101, 97, 110] : List UInt8)) = true then
 .norm [.b true]
 else
 .norm [.b ((a.getD 0 d0).ss == ([73, 68] : List UInt8))]) fun v1 =>
 .ret [.b ((v1.getD 0 d0).bb)]
theorem eq_spec_BuiltIn a : r_spec_BuiltIn a = E_spec_BuiltIn a := (Run_eq cfg 165 _ a).trans (by kernel_rfl)
noncomputable def E_impl_BuiltIn (a : List DC) : Out :=
 Out.andThenB (Out.andThen (if ((a.getD 0 d0).ss == ([73, 110, 116] : List UInt8)) = true then
 .norm [.b ((a.getD 0 d0).ss == ([73, 110, 116] : List UInt8))]
 else
 Out.andThen (if ((a.getD 0 d0).ss == ([70, 108, 111, 97, 116] : List UInt8)) = true then
 .norm [.b ((a.getD 0 d0).ss == ([70, 108, 111, 97, 116] : List UInt8))]
 else
 Out.andThen (if ((a.getD 0 d0).ss == ([83, 116, 114, 105, 110, 103] : List UInt8)) = true then
 .norm [.b ((a.getD 0 d0).ss == ([83, 116, 114, 105, 110, 103] : List UInt8))]
 else
 Out.andThen (if ((a.getD 0 d0).ss == ([66, 111, 111, 108, 101, 97, 110] : List UInt8)) = true then
 .norm [.b ((a.getD 0 d0).ss == ([66, 111, 111, 108, 101, 97, 110] : List UInt8))]
 else
 .norm [.b ((a.getD 0 d0).ss == ([73, 68] : List UInt8))]) fun v1 =>
 .norm [.b ((v1.getD 0 d0).bb)]) fun v2 =>
 .norm [.b ((v2.getD 0 d0).bb)]) fun v3 =>
 .norm [.b ((v3.getD 0 d0).bb)]) fun v4 =>
 if (v4.getD 0 d0).bb = true then
 .ret [.b true]
 else
 .norm []) 0 fun v5 =>
 .ret [.b false]
theorem eq_impl_BuiltIn a : r_impl_BuiltIn a = E_impl_BuiltIn a := (Run_eq cfg 166 _ a).trans (by kernel_rfl)
noncomputable def E_impl_named (a : List DC) : Out :=
 if (decide ((((a.getD 0 d0).ll).length : Int) > (60 : Int))) = true then
 .ret [.i (-1 : Int)]
 else
 (r_slices_IndexFunc_impl_Def__impl_named_1 [.sl ((a.getD 0 d0).ll), .s ((a.getD 1 d0).ss)]).bindR fun r1 =>
 .ret [.i ((r1.getD 0 d0).ii)]
theorem eq_impl_named a : r_impl_named a = E_impl_named a := (Run_eq cfg 148 _ a).trans (by kernel_rfl)
noncomputable def E_impl_fieldOf_1 (a : List DC) : Out :=
 .ret [.b ((a.getD 0 d0).ss == (a.getD 6 d0).ss), .s ((a.getD 6 d0).ss)]
theorem eq_impl_fieldOf_1 a : r_impl_fieldOf_1 a = E_impl_fieldOf_1 a := (Run_eq cfg 134 _ a).trans (by kernel_rfl)
noncomputable def E_slices_Clone_string (a : List DC) : Out := match primC 9 h_slices_Clone_string a with | some r => .ret r | none => .fail
theorem eq_slices_Clone_string a : r_slices_Clone_string a = E_slices_Clone_string a := (Run_eq cfg 114 h_slices_Clone_string a).trans (by kernel_rfl)
theorem at_slices_Clone_string (l : List (List DC)) (hl : l.length ≤ 4194304) : r_slices_Clone_string [.sl l] = .ret [.sl l] := by
  have h : l.length < LIM := by unfold LIM; omega
  have k : primC 9 h_slices_Clone_string [.sl l] = some [.sl l] := by
    show (if 9 = 9 ∧ l.length < LIM then some [DC.sl l] else none) = _
    rw [if_pos ⟨rfl, h⟩]
  rw [eq_slices_Clone_string, E_slices_Clone_string, k]
noncomputable def E_laws_eqValueSL1 : List DC → Out := fun v1 =>
 if (decide ((v1.getD 2 d0).ii < (((v1.getD 0 d0).ll).length : Int))) = true then
 Out.andThenB (if 121 = 121 ∧ 0 ≤ (v1.getD 2 d0).ii ∧ (v1.getD 2 d0).ii < (((v1.getD 0 d0).ll).length : Int) then
 if 121 = 121 ∧ 0 ≤ (v1.getD 2 d0).ii ∧ (v1.getD 2 d0).ii < (((v1.getD 1 d0).ll).length : Int) then
 (r_laws_eqValue [.i (((((v1.getD 0 d0).ll).getD ((v1.getD 2 d0).ii).toNat []).getD 0 d0).ii), .s (((((v1.getD 0 d0).ll).getD ((v1.getD 2 d0).ii).toNat []).getD 1 d0).ss), .sl (((((v1.getD 0 d0).ll).getD ((v1.getD 2 d0).ii).toNat []).getD 2 d0).ll), .sl (((((v1.getD 0 d0).ll).getD ((v1.getD 2 d0).ii).toNat []).getD 3 d0).ll), .i (((((v1.getD 1 d0).ll).getD ((v1.getD 2 d0).ii).toNat []).getD 0 d0).ii), .s (((((v1.getD 1 d0).ll).getD ((v1.getD 2 d0).ii).toNat []).getD 1 d0).ss), .sl (((((v1.getD 1 d0).ll).getD ((v1.getD 2 d0).ii).toNat []).getD 2 d0).ll), .sl (((((v1.getD 1 d0).ll).getD ((v1.getD 2 d0).ii).toNat []).getD 3 d0).ll)]).bindR fun r2 =>
 if (!((r2.getD 0 d0).bb)) = true then
 .ret [.b false]
 else
 .norm [.sl ((v1.getD 0 d0).ll), .sl ((v1.getD 1 d0).ll), .i ((v1.getD 2 d0).ii)]
 else
 .fail
 else
 .fail) 1 fun v3 =>
 .norm [.sl ((v3.getD 0 d0).ll), .sl ((v3.getD 1 d0).ll), .i (IntKind.i64.wrap ((v3.getD 2 d0).ii + (1 : Int)))]
 else
 .ex 0 []
noncomputable def E_laws_eqValueS (a : List DC) : Out :=
 if ((((a.getD 0 d0).ll).length : Int) != (((a.getD 1 d0).ll).length : Int)) = true then
 .ret [.b false]
 else
 Out.andThenB (Loop E_laws_eqValueSL1 [.sl ((a.getD 0 d0).ll), .sl ((a.getD 1 d0).ll), .i (0 : Int)]) 0 fun v4 =>
 .ret [.b true]
theorem eq_laws_eqValueS a : r_laws_eqValueS a = E_laws_eqValueS a := (Run_eq cfg 167 _ a).trans (by kernel_rfl)
noncomputable def E_laws_eqArg (a : List DC) : Out :=
 if (!((a.getD 0 d0).ss == (a.getD 5 d0).ss)) = true then
 .ret [.b false]
 else
 (r_laws_eqValue [.i ((a.getD 1 d0).ii), .s ((a.getD 2 d0).ss), .sl ((a.getD 3 d0).ll), .sl ((a.getD 4 d0).ll), .i ((a.getD 6 d0).ii), .s ((a.getD 7 d0).ss), .sl ((a.getD 8 d0).ll), .sl ((a.getD 9 d0).ll)]).bindR fun r1 =>
 if (!((r1.getD 0 d0).bb)) = true then
 .ret [.b false]
 else
 .ret [.b true]
theorem eq_laws_eqArg a : r_laws_eqArg a = E_laws_eqArg a := (Run_eq cfg 168 _ a).trans (by kernel_rfl)
noncomputable def E_laws_eqEnumDef (a : List DC) : Out :=
 if (!((a.getD 0 d0).ss == (a.getD 3 d0).ss)) = true then
 .ret [.b false]
 else
 if (!((a.getD 1 d0).ss == (a.getD 4 d0).ss)) = true then
 .ret [.b false]
 else
 (r_laws_eqDirS [.sl ((a.getD 2 d0).ll), .sl ((a.getD 5 d0).ll)]).bindR fun r1 =>
 if (!((r1.getD 0 d0).bb)) = true then
 .ret [.b false]
 else
 .ret [.b true]
theorem eq_laws_eqEnumDef a : r_laws_eqEnumDef a = E_laws_eqEnumDef a := (Run_eq cfg 147 _ a).trans (by kernel_rfl)
noncomputable def E_laws_szType (a : List DC) : Out :=
 if (decide ((IntKind.i64.wrap ((a.getD 2 d0).ii - (((a.getD 0 d0).ss).length : Int))) < (0 : Int))) = true then
 .ret [.i (-1 : Int)]
 else
 if (decide ((IntKind.i64.wrap ((IntKind.i64.wrap ((a.getD 2 d0).ii - (((a.getD 0 d0).ss).length : Int))) - (((a.getD 1 d0).ss).length : Int))) < (0 : Int))) = true then
 .ret [.i (-1 : Int)]
 else
 .ret [.i (IntKind.i64.wrap ((IntKind.i64.wrap ((a.getD 2 d0).ii - (((a.getD 0 d0).ss).length : Int))) - (((a.getD 1 d0).ss).length : Int)))]
theorem eq_laws_szType a : r_laws_szType a = E_laws_szType a := (Run_eq cfg 169 _ a).trans (by kernel_rfl)
noncomputable def E_laws_szValue (a : List DC) : Out :=
 if (decide ((IntKind.i64.wrap ((a.getD 4 d0).ii - (((a.getD 1 d0).ss).length : Int))) < (0 : Int))) = true then
 .ret [.i (-1 : Int)]
 else
 (r_laws_szValueS [.sl ((a.getD 2 d0).ll), .i (IntKind.i64.wrap ((a.getD 4 d0).ii - (((a.getD 1 d0).ss).length : Int)))]).bindR fun r1 =>
 if (decide ((r1.getD 0 d0).ii < (0 : Int))) = true then
 .ret [.i (-1 : Int)]
 else
 (r_laws_szStringS [.sl ((a.getD 3 d0).ll), .i ((r1.getD 0 d0).ii)]).bindR fun r2 =>
 if (decide ((r2.getD 0 d0).ii < (0 : Int))) = true then
 .ret [.i (-1 : Int)]
 else
 .ret [.i ((r2.getD 0 d0).ii)]
theorem eq_laws_szValue a : r_laws_szValue a = E_laws_szValue a := (Run_eq cfg 170 _ a).trans (by kernel_rfl)
noncomputable def E_laws_szArgSL1 : List DC → Out := fun v1 =>
 if (decide ((v1.getD 2 d0).ii < (((v1.getD 0 d0).ll).length : Int))) = true then
 Out.andThenB (if 221 = 221 ∧ 0 ≤ (v1.getD 2 d0).ii ∧ (v1.getD 2 d0).ii < (((v1.getD 0 d0).ll).length : Int) then
 (r_laws_szArg [.s (((((v1.getD 0 d0).ll).getD ((v1.getD 2 d0).ii).toNat []).getD 0 d0).ss), .i (((((v1.getD 0 d0).ll).getD ((v1.getD 2 d0).ii).toNat []).getD 1 d0).ii), .s (((((v1.getD 0 d0).ll).getD ((v1.getD 2 d0).ii).toNat []).getD 2 d0).ss), .sl (((((v1.getD 0 d0).ll).getD ((v1.getD 2 d0).ii).toNat []).getD 3 d0).ll), .sl (((((v1.getD 0 d0).ll).getD ((v1.getD 2 d0).ii).toNat []).getD 4 d0).ll), .i ((v1.getD 1 d0).ii)]).bindR fun r2 =>
 if (decide ((r2.getD 0 d0).ii < (0 : Int))) = true then
 .ret [.i (-1 : Int)]
 else
 .norm [.sl ((v1.getD 0 d0).ll), .i ((r2.getD 0 d0).ii), .i ((v1.getD 2 d0).ii)]
 else
 .fail) 1 fun v3 =>
 .norm [.sl ((v3.getD 0 d0).ll), .i ((v3.getD 1 d0).ii), .i (IntKind.i64.wrap ((v3.getD 2 d0).ii + (1 : Int)))]
 else
 .ex 0 [.i ((v1.getD 1 d0).ii)]
noncomputable def E_laws_szArgS (a : List DC) : Out :=
 if (decide ((IntKind.i64.wrap ((a.getD 1 d0).ii - (((a.getD 0 d0).ll).length : Int))) < (0 : Int))) = true then
 .ret [.i (-1 : Int)]
 else
 Out.andThenB (Loop E_laws_szArgSL1 [.sl ((a.getD 0 d0).ll), .i (IntKind.i64.wrap ((a.getD 1 d0).ii - (((a.getD 0 d0).ll).length : Int))), .i (0 : Int)]) 0 fun v4 =>
 .ret [.i ((v4.getD 0 d0).ii)]
theorem eq_laws_szArgS a : r_laws_szArgS a = E_laws_szArgS a := (Run_eq cfg 171 _ a).trans (by kernel_rfl)
noncomputable def E_laws_toType (a : List DC) : Out :=
 .ret [.s ((a.getD 0 d0).ss), .s ((a.getD 1 d0).ss)]
theorem eq_laws_toType a : r_laws_toType a = E_laws_toType a := (Run_eq cfg 172 _ a).trans (by kernel_rfl)
noncomputable def E_laws_toValue (a : List DC) : Out :=
 (r_laws_toValueS [.sl ((a.getD 2 d0).ll)]).bindR fun r1 =>
 (r_laws_toStringS [.sl ((a.getD 3 d0).ll)]).bindR fun r2 =>
 .ret [.i ((a.getD 0 d0).ii), .s ((a.getD 1 d0).ss), .sl ((r1.getD 0 d0).ll), .sl ((r2.getD 0 d0).ll)]
theorem eq_laws_toValue a : r_laws_toValue a = E_laws_toValue a := (Run_eq cfg 173 _ a).trans (by kernel_rfl)
noncomputable def E_laws_toArgSL1 : List DC → Out := fun v1 =>
 if (decide ((v1.getD 2 d0).ii < (((v1.getD 0 d0).ll).length : Int))) = true then
 Out.andThenB (if 221 = 221 ∧ 0 ≤ (v1.getD 2 d0).ii ∧ (v1.getD 2 d0).ii < (((v1.getD 0 d0).ll).length : Int) then
 (r_laws_toArg [.s (((((v1.getD 0 d0).ll).getD ((v1.getD 2 d0).ii).toNat []).getD 0 d0).ss), .i (((((v1.getD 0 d0).ll).getD ((v1.getD 2 d0).ii).toNat []).getD 1 d0).ii), .s (((((v1.getD 0 d0).ll).getD ((v1.getD 2 d0).ii).toNat []).getD 2 d0).ss), .sl (((((v1.getD 0 d0).ll).getD ((v1.getD 2 d0).ii).toNat []).getD 3 d0).ll), .sl (((((v1.getD 0 d0).ll).getD ((v1.getD 2 d0).ii).toNat []).getD 4 d0).ll)]).bindR fun r2 =>
 if 160 = 160 ∧ 0 ≤ (v1.getD 2 d0).ii ∧ (v1.getD 2 d0).ii < (((v1.getD 1 d0).ll).length : Int) then
 .norm [.sl ((v1.getD 0 d0).ll), .sl (((v1.getD 1 d0).ll).set (((v1.getD 2 d0).ii).toNat) (setRunD (((v1.getD 1 d0).ll).getD (((v1.getD 2 d0).ii).toNat) []) 0 [DC.s ((r2.getD 0 d0).ss), DC.i ((r2.getD 1 d0).ii), DC.s ((r2.getD 2 d0).ss), DC.sl ((r2.getD 3 d0).ll), DC.sl ((r2.getD 4 d0).ll)])), .i ((v1.getD 2 d0).ii)]
 else
 .fail
 else
 .fail) 1 fun v3 =>
 .norm [.sl ((v3.getD 0 d0).ll), .sl ((v3.getD 1 d0).ll), .i (IntKind.i64.wrap ((v3.getD 2 d0).ii + (1 : Int)))]
 else
 .ex 0 [.sl ((v1.getD 1 d0).ll)]
noncomputable def E_laws_toArgS (a : List DC) : Out :=
 if 0 ≤ (((a.getD 0 d0).ll).length : Int) ∧ (((a.getD 0 d0).ll).length : Int) < (LIM : Int) ∧ (((a.getD 0 d0).ll).length : Int) = (((a.getD 0 d0).ll).length : Int) ∧ 88 ≤ 1024 ∧ 0 < 5 ∧ dp 160 = false then
 Out.andThenB (Loop E_laws_toArgSL1 [.sl ((a.getD 0 d0).ll), .sl (List.replicate (((a.getD 0 d0).ll).length : Int).toNat [DC.s [], DC.i 0, DC.s [], DC.sl [], DC.sl []]), .i (0 : Int)]) 0 fun v4 =>
 .ret [.sl ((v4.getD 0 d0).ll)]
 else
 .fail
theorem eq_laws_toArgS a : r_laws_toArgS a = E_laws_toArgS a := (Run_eq cfg 174 _ a).trans (by kernel_rfl)
noncomputable def E_slices_IndexFunc_impl_Def__impl_named_1L1 : List DC → Out := fun v1 =>
 if (decide ((v1.getD 2 d0).ii < (v1.getD 1 d0).ii)) = true then
 Out.andThenB (if 84 = 84 ∧ 0 ≤ (v1.getD 2 d0).ii ∧ (v1.getD 2 d0).ii < (((v1.getD 0 d0).ll).length : Int) then
 (r_impl_named_1 [.i (((((v1.getD 0 d0).ll).getD ((v1.getD 2 d0).ii).toNat []).getD 0 d0).ii), .b (((((v1.getD 0 d0).ll).getD ((v1.getD 2 d0).ii).toNat []).getD 1 d0).bb), .s (((((v1.getD 0 d0).ll).getD ((v1.getD 2 d0).ii).toNat []).getD 2 d0).ss), .s (((((v1.getD 0 d0).ll).getD ((v1.getD 2 d0).ii).toNat []).getD 3 d0).ss), .sl (((((v1.getD 0 d0).ll).getD ((v1.getD 2 d0).ii).toNat []).getD 4 d0).ll), .sl (((((v1.getD 0 d0).ll).getD ((v1.getD 2 d0).ii).toNat []).getD 5 d0).ll), .sl (((((v1.getD 0 d0).ll).getD ((v1.getD 2 d0).ii).toNat []).getD 6 d0).ll), .sl (((((v1.getD 0 d0).ll).getD ((v1.getD 2 d0).ii).toNat []).getD 7 d0).ll), .sl (((((v1.getD 0 d0).ll).getD ((v1.getD 2 d0).ii).toNat []).getD 8 d0).ll), .b (((((v1.getD 0 d0).ll).getD ((v1.getD 2 d0).ii).toNat []).getD 9 d0).bb), .sl (((((v1.getD 0 d0).ll).getD ((v1.getD 2 d0).ii).toNat []).getD 10 d0).ll), .s ((v1.getD 3 d0).ss)]).bindR fun r2 =>
 if (r2.getD 0 d0).bb = true then
 .ret [.i ((v1.getD 2 d0).ii), .s ((r2.getD 1 d0).ss)]
 else
 .norm [.sl ((v1.getD 0 d0).ll), .i ((v1.getD 1 d0).ii), .i ((v1.getD 2 d0).ii), .s ((r2.getD 1 d0).ss)]
 else
 .fail) 1 fun v3 =>
 .norm [.sl ((v3.getD 0 d0).ll), .i ((v3.getD 1 d0).ii), .i (IntKind.i64.wrap ((v3.getD 2 d0).ii + (1 : Int))), .s ((v3.getD 3 d0).ss)]
 else
 .ex 0 [.s ((v1.getD 3 d0).ss)]
noncomputable def E_slices_IndexFunc_impl_Def__impl_named_1 (a : List DC) : Out :=
 Out.andThenB (Loop E_slices_IndexFunc_impl_Def__impl_named_1L1 [.sl ((a.getD 0 d0).ll), .i (((a.getD 0 d0).ll).length : Int), .i (0 : Int), .s ((a.getD 1 d0).ss)]) 0 fun v4 =>
 .ret [.i (-1 : Int), .s ((v4.getD 0 d0).ss)]
theorem eq_slices_IndexFunc_impl_Def__impl_named_1 a : r_slices_IndexFunc_impl_Def__impl_named_1 a = E_slices_IndexFunc_impl_Def__impl_named_1 a := (Run_eq cfg 62 _ a).trans (by kernel_rfl)
noncomputable def E_laws_szValueSL1 : List DC → Out := fun v1 =>
 if (decide ((v1.getD 2 d0).ii < (((v1.getD 0 d0).ll).length : Int))) = true then
 Out.andThenB (if 168 = 168 ∧ 0 ≤ (v1.getD 2 d0).ii ∧ (v1.getD 2 d0).ii < (((v1.getD 0 d0).ll).length : Int) then
 (r_laws_szValue [.i (((((v1.getD 0 d0).ll).getD ((v1.getD 2 d0).ii).toNat []).getD 0 d0).ii), .s (((((v1.getD 0 d0).ll).getD ((v1.getD 2 d0).ii).toNat []).getD 1 d0).ss), .sl (((((v1.getD 0 d0).ll).getD ((v1.getD 2 d0).ii).toNat []).getD 2 d0).ll), .sl (((((v1.getD 0 d0).ll).getD ((v1.getD 2 d0).ii).toNat []).getD 3 d0).ll), .i ((v1.getD 1 d0).ii)]).bindR fun r2 =>
 if (decide ((r2.getD 0 d0).ii < (0 : Int))) = true then
 .ret [.i (-1 : Int)]
 else
 .norm [.sl ((v1.getD 0 d0).ll), .i ((r2.getD 0 d0).ii), .i ((v1.getD 2 d0).ii)]
 else
 .fail) 1 fun v3 =>
 .norm [.sl ((v3.getD 0 d0).ll), .i ((v3.getD 1 d0).ii), .i (IntKind.i64.wrap ((v3.getD 2 d0).ii + (1 : Int)))]
 else
 .ex 0 [.i ((v1.getD 1 d0).ii)]
noncomputable def E_laws_szValueS (a : List DC) : Out :=
 if (decide ((IntKind.i64.wrap ((a.getD 1 d0).ii - (((a.getD 0 d0).ll).length : Int))) < (0 : Int))) = true then
 .ret [.i (-1 : Int)]
 else
 Out.andThenB (Loop E_laws_szValueSL1 [.sl ((a.getD 0 d0).ll), .i (IntKind.i64.wrap ((a.getD 1 d0).ii - (((a.getD 0 d0).ll).length : Int))), .i (0 : Int)]) 0 fun v4 =>
 .ret [.i ((v4.getD 0 d0).ii)]
theorem eq_laws_szValueS a : r_laws_szValueS a = E_laws_szValueS a := (Run_eq cfg 185 _ a).trans (by kernel_rfl)
noncomputable def E_laws_szArg (a : List DC) : Out :=
 if (decide ((IntKind.i64.wrap ((a.getD 5 d0).ii - (((a.getD 0 d0).ss).length : Int))) < (0 : Int))) = true then
 .ret [.i (-1 : Int)]
 else
 (r_laws_szValue [.i ((a.getD 1 d0).ii), .s ((a.getD 2 d0).ss), .sl ((a.getD 3 d0).ll), .sl ((a.getD 4 d0).ll), .i (IntKind.i64.wrap ((a.getD 5 d0).ii - (((a.getD 0 d0).ss).length : Int)))]).bindR fun r1 =>
 if (decide ((r1.getD 0 d0).ii < (0 : Int))) = true then
 .ret [.i (-1 : Int)]
 else
 .ret [.i ((r1.getD 0 d0).ii)]
theorem eq_laws_szArg a : r_laws_szArg a = E_laws_szArg a := (Run_eq cfg 186 _ a).trans (by kernel_rfl)
noncomputable def E_laws_toValueSL1 : List DC → Out := fun v1 =>
 if (decide ((v1.getD 2 d0).ii < (((v1.getD 0 d0).ll).length : Int))) = true then
 Out.andThenB (if 168 = 168 ∧ 0 ≤ (v1.getD 2 d0).ii ∧ (v1.getD 2 d0).ii < (((v1.getD 0 d0).ll).length : Int) then
 (r_laws_toValue [.i (((((v1.getD 0 d0).ll).getD ((v1.getD 2 d0).ii).toNat []).getD 0 d0).ii), .s (((((v1.getD 0 d0).ll).getD ((v1.getD 2 d0).ii).toNat []).getD 1 d0).ss), .sl (((((v1.getD 0 d0).ll).getD ((v1.getD 2 d0).ii).toNat []).getD 2 d0).ll), .sl (((((v1.getD 0 d0).ll).getD ((v1.getD 2 d0).ii).toNat []).getD 3 d0).ll)]).bindR fun r2 =>
 if 121 = 121 ∧ 0 ≤ (v1.getD 2 d0).ii ∧ (v1.getD 2 d0).ii < (((v1.getD 1 d0).ll).length : Int) then
 .norm [.sl ((v1.getD 0 d0).ll), .sl (((v1.getD 1 d0).ll).set (((v1.getD 2 d0).ii).toNat) (setRunD (((v1.getD 1 d0).ll).getD (((v1.getD 2 d0).ii).toNat) []) 0 [DC.i ((r2.getD 0 d0).ii), DC.s ((r2.getD 1 d0).ss), DC.sl ((r2.getD 2 d0).ll), DC.sl ((r2.getD 3 d0).ll)])), .i ((v1.getD 2 d0).ii)]
 else
 .fail
 else
 .fail) 1 fun v3 =>
 .norm [.sl ((v3.getD 0 d0).ll), .sl ((v3.getD 1 d0).ll), .i (IntKind.i64.wrap ((v3.getD 2 d0).ii + (1 : Int)))]
 else
 .ex 0 [.sl ((v1.getD 1 d0).ll)]
noncomputable def E_laws_toValueS (a : List DC) : Out :=
 if 0 ≤ (((a.getD 0 d0).ll).length : Int) ∧ (((a.getD 0 d0).ll).length : Int) < (LIM : Int) ∧ (((a.getD 0 d0).ll).length : Int) = (((a.getD 0 d0).ll).length : Int) ∧ 72 ≤ 1024 ∧ 0 < 4 ∧ dp 121 = false then
 Out.andThenB (Loop E_laws_toValueSL1 [.sl ((a.getD 0 d0).ll), .sl (List.replicate (((a.getD 0 d0).ll).length : Int).toNat [DC.i 0, DC.s [], DC.sl [], DC.sl []]), .i (0 : Int)]) 0 fun v4 =>
 .ret [.sl ((v4.getD 0 d0).ll)]
 else
 .fail
theorem eq_laws_toValueS a : r_laws_toValueS a = E_laws_toValueS a := (Run_eq cfg 187 _ a).trans (by kernel_rfl)
noncomputable def E_laws_toArg (a : List DC) : Out :=
 (r_laws_toValue [.i ((a.getD 1 d0).ii), .s ((a.getD 2 d0).ss), .sl ((a.getD 3 d0).ll), .sl ((a.getD 4 d0).ll)]).bindR fun r1 =>
 .ret [.s ((a.getD 0 d0).ss), .i ((r1.getD 0 d0).ii), .s ((r1.getD 1 d0).ss), .sl ((r1.getD 2 d0).ll), .sl ((r1.getD 3 d0).ll)]
theorem eq_laws_toArg a : r_laws_toArg a = E_laws_toArg a := (Run_eq cfg 188 _ a).trans (by kernel_rfl)
noncomputable def E_impl_named_1 (a : List DC) : Out :=
 .ret [.b ((a.getD 3 d0).ss == (a.getD 11 d0).ss), .s ((a.getD 11 d0).ss)]
theorem eq_impl_named_1 a : r_impl_named_1 a = E_impl_named_1 a := (Run_eq cfg 175 _ a).trans (by kernel_rfl)
end Go.Proofs.QV

