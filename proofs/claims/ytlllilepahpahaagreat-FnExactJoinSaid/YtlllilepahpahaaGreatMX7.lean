import Derived.Test.YtlllilepahpahaaGreatMX6
import Derived.Lib.SliceRun
import Derived.Test.YtlllilepahpahaaGreatMX5
import Derived.Test.YtlllilepahpahaaGreatProg
import Derived.Sort.Grow
import Derived.Sort.EncStr
import Derived.Lib.SlicesCompact
import Derived.Shelf.SlicesQ.IndexFunc
/- A function that is met by a contract and gives a copy of a slice (slices.Clone). -/
namespace Go.Proofs.QV
open Go
set_option linter.unusedVariables false
set_option linter.unusedSimpArgs false
def primC (e : Nat) : Hint → List DC → Option (List DC) := fun h v =>
  match h.tm, h.ob, v with
  | [.one (.sl e')], [], [.sl l] => if e' = e ∧ l.length < LIM then some [.sl l] else none
  | _, _, _ => none
def clCond : Code → Code
  | .seq _ (.seq (.seq _ x) _) => x
  | _ => .skip
def clRest : Code → Code
  | .seq _ (.seq _ y) => y
  | _ => .skip
def noFn : Nat → Option FI := fun _ => none
def noCl : Nat → Hint → List DC → Out := fun _ _ _ => .fail
def clRun (ty : Nat → Option TI) (fi : FI) (e : Nat) (ac ar : AC) (b : Bool) (l : List (List DC)) : Out :=
  let h : Hint := ⟨[.one (.sl e)], []⟩
  let st := startSt fi h [.sl l]
  exec ty noFn noCl 0 0 (retOut ty fi h) (.seq ac ar) (fun _ => none) { tm := putC (putC (putC st.tm (some 2) (.one .nil)) (some 3) (.one (.sl e l))) (some 4) (.one (.bool b)), H := st.H } (retOut ty fi h)
structure ClShape (P : Program) (fd : Func) (e : Nat) (ac ar : AC) : Prop where
  ex : ∃ (i0 i1 : Nat) (o0 om ob : Oper) (t t' : Nat), fd.body = some (.seq (.region i0 #[o0] false) (.seq (.seq (.region i1 #[om, ob] false) ac.code) ar.code)) ∧
    (o0.op = .assign (.const (.slice none 0 0)) ∧ o0.dst = some 2 ∧ o0.guard = none) ∧ (om.op = .move (.tmp 0) ∧ om.dst = some 3 ∧ om.guard = none) ∧
    (ob.op = .binOp .eql t (.tmp 3) (.const (.slice none 0 0)) t' ∧ ob.dst = some 4 ∧ ob.guard = none) ∧ P.underlying t = some (.slice e)
section
variable {P : Program} {ty : Nat → Option TI}
theorem eval_put_neq {a : Act} {d e : Nat} {u : Value} (h : d ≠ e) : (a.put (some d) u).eval (.tmp e) = a.eval (.tmp e) := by
  show (a.tmps.setIfInBounds d u).getD e undef = a.tmps.getD e undef
  rw [Array.getD_eq_getD_getElem?, Array.getD_eq_getD_getElem?, Array.getElem?_setIfInBounds_ne h]
theorem prim_clone {G : Glob} {f : Nat} {fi : FI} {fd : Func} {e : Nat} {ac ar : AC} (hty : TyOk P ty) (hmix : P.follows .mixedOrders = true) (h1 : P.funcs[f]? = some fd) (h2 : (fd.name == "runtime.NumGoroutine") = false) (h3 : fd.body.isNone = false)
    (hmk : fi.mark = none) (hp : fi.prim = some (primC e)) (hsh : ClShape P fd e ac ar) (hres : fd.results.toList = fi.res) (hnt : fd.ntmps = fi.ntmps) (hlen : 4 < fi.ntmps)
    (hrun : ∀ b l, (b = true → l = []) → l.length < LIM → clRun ty fi e ac ar b l = .ret [.sl l]) (hstf : fi.stf = none := by rfl) : FnOk P G ty f fi := by
  refine ⟨⟨fd, h1, h2, h3, fun h => by rw [hp] at h; simp at h⟩, fun p hpp h v r en => ?_, fun m hm => (by rw [hmk] at hm; cases hm), fun m hm => (by rw [hstf] at hm; cases hm)⟩
  rw [hp] at hpp
  simp only [Option.some.injEq] at hpp
  subst hpp
  unfold primC at en
  split at en
  · rename_i e' l htm hob
    split at en
    · rename_i hc
      obtain ⟨rfl, hlim⟩ := hc
      simp only [Option.some.injEq] at en
      subst en
      obtain ⟨tm, ob⟩ := h
      dsimp only at htm hob
      subst htm hob
      intro A g vals w hA hr hs hw hm
      have hs1 : vals.size = 1 := by simpa using hs
      obtain ⟨i0, i1, o0, om, ob, t, t', hbody, ⟨x1, x2, x3⟩, ⟨y1, y2, y3⟩, ⟨z1, z2, z3⟩, hu⟩ := hsh.ex
      have t0 := hr.tm 0 _ (vals[0]'(by omega)) (show (startSt fi ⟨[.one (.sl e')], []⟩ [.sl l]).tm[0]? = some (.one (.sl e' l)) from rfl) (by
        dsimp only
        rw [Array.getElem?_append_left (by omega), Array.getElem?_eq_getElem (by omega)])
      obtain ⟨F, t0, t1⟩ := t0
      have hv0 : ∀ v0, RdC ty w (.sl e') (.sl l) v0 F → ∃ ad n cap, v0 = .slice ad n cap ∧ (ad.isNone = true → l = []) := by
        intro v0 h0
        generalize hl0 : l = l0 at h0
        cases h0 with
        | nil _ a c => exact ⟨a, 0, c, rfl, fun _ => rfl⟩
        | sl _ _ b off n cap => exact ⟨_, n, cap, rfl, fun h => by simp at h⟩
      obtain ⟨ad, n, cap, hv0, hnil⟩ := hv0 _ t0
      refine calls_of_wp h1 hbody ?_
      rw [hnt]
      generalize ha0 : ({ tmps := vals ++ Array.replicate (fi.ntmps - vals.size) undef, defers := [] } : Act) = a0 at hr ⊢
      have e0 : a0.eval (.tmp 0) = .slice ad n cap := by
        subst ha0
        show Array.getD _ 0 undef = _
        rw [Array.getD_eq_getD_getElem?, Array.getElem?_append_left (by omega), Array.getElem?_eq_getElem (by omega), hv0]
        rfl
      have n1 : 4 < a0.tmps.size := by subst ha0; simp; omega
      refine wp_seq (wp_region ?_)
      show wpOps P #[o0] _ [0] a0 w
      refine wp_cons_none (o := o0) rfl x3 (wp_value (v := .slice none 0 0) (w' := w) (by simp [execOp, x1, Act.eval]) ?_)
      rw [x2]
      have r1 := hr.put (some 2) (c := .one .nil) (v := .slice none 0 0) rfl
      refine wp_seq (wp_seq (wp_region ?_))
      show wpOps P #[om, ob] _ [0, 1] _ w
      have e1 : (a0.put (some 2) (.slice none 0 0)).eval (.tmp 0) = .slice ad n cap := by rw [eval_put_neq (by decide)]; exact e0
      refine wp_cons_none (o := om) rfl y3 (wp_value (v := .slice ad n cap) (w' := w) (by simp only [execOp, y1, Sem.run_pure]; rw [e1]) ?_)
      rw [y2]
      have r2 := r1.put (some 3) (c := .one (.sl e' l)) (v := .slice ad n cap) ⟨F, by rw [← hv0]; exact t0, t1⟩
      refine wp_cons_none (o := ob) rfl z3 (wp_value (v := .bool ad.isNone) (w' := w) ?_ ?_)
      · have e2 : ((a0.put (some 2) (.slice none 0 0)).put (some 3) (.slice ad n cap)).eval (.tmp 3) = .slice ad n cap := by
          show Array.getD _ 3 undef = _
          rw [Array.getD_eq_getD_getElem?]
          simp only [Act.put]
          rw [Array.getElem?_setIfInBounds_self_of_lt (by simp; omega)]
          rfl
        simp only [execOp, z1]
        rw [e2]
        simp [eqGuard, Act.eval, Lib.run_eql_slice_nil w t e' ad n cap 0 0 hu]
      rw [z2]
      have r3 := r2.put (some 4) (c := .one (.bool ad.isNone)) (v := .bool ad.isNone) rfl
      have hcall : CallStep P ty noFn noCl A := call_step (G := G) (fun f fi h => by simp [noFn] at h) (fun f fi h v r hf e => by simp [noCl] at e) A hA
      have hex := hrun ad.isNone l hnil hlim
      unfold clRun at hex
      dsimp only at hex
      rw [exec] at hex
      have hm0 : A.m = 0 := by rw [hm]; rfl
      have fin : ∀ g' st' a' w', Rel ty A g' st' a' w' → retOut ty fi ⟨[.one (.sl e')], []⟩ st' = .ret [.sl l] → a'.defers = [] ∧ ∃ v, (results fd a'.tmps).run P w' = .ok v w' ∧ ∃ vs, v = resVal vs ∧ Res ty A (KO.vars []) fi.rk [.sl l] vs w' := by
        intro g' st' a' w' hr' hk
        obtain ⟨vs, q1, q2⟩ := ret_ok hty hr' (hn := ⟨[.one (.sl e')], []⟩) hm hk hres
        exact ⟨hr'.df, _, q1, vs, rfl, q2⟩
      refine wp_mono (exec_ok hty hcall hmix hm0 (fun st v => (retOut_ne fi ⟨[.one (.sl e')], []⟩ st).1 v) (fun st id v => (retOut_ne fi ⟨[.one (.sl e')], []⟩ st).2 id v) ac _ _ _ (.ret [.sl l]) g _ w r3 hex (by simp)) fun ex a' w' hq => ?_
      cases ex with
      | normal =>
        obtain ⟨g', st', hr', hk⟩ := hq
        refine wp_mono (exec_ok hty hcall hmix hm0 (fun st v => (retOut_ne fi ⟨[.one (.sl e')], []⟩ st).1 v) (fun st id v => (retOut_ne fi ⟨[.one (.sl e')], []⟩ st).2 id v) ar _ _ _ (.ret [.sl l]) g' _ w' hr' hk (by simp)) fun ex a2 w2 hq2 => ?_
        cases ex with
        | normal =>
          obtain ⟨g2, st2, hr2, hk2⟩ := hq2
          exact fin g2 st2 a2 w2 hr2 hk2
        | ret =>
          obtain ⟨g2, st2, hr2, hk2⟩ := hq2
          exact fin g2 st2 a2 w2 hr2 hk2
        | exit id =>
          obtain ⟨_, _, _, hk, _⟩ := hq2
          simp at hk
        | goto l => exact hq2.elim
        | panic c => exact hq2.elim
        | outgrown => exact hq2.elim
      | ret =>
        obtain ⟨g2, st2, hr2, hk2⟩ := hq
        exact fin g2 st2 a' w' hr2 hk2
      | exit id =>
        obtain ⟨_, _, _, hk, _⟩ := hq
        simp at hk
      | goto l => exact hq.elim
      | panic c => exact hq.elim
      | outgrown => exact hq.elim
    · simp at en
  · simp at en
end
set_option maxRecDepth 100000
abbrev ou : KC := .one .u
abbrev ob : KC := .one .b
abbrev os : KC := .one .s
abbrev oi : KC := .one (.i .i64)
abbrev ol (e : Nat) : KC := .one (.sl e)
def uu (n : Nat) (l : List KC) : List KC := List.replicate n (.one .u) ++ l
def vv (n : Nat) (l : List KO) : List KO := List.replicate n .u ++ l
noncomputable def tyL : List (Nat × TI) := [(3, ⟨.int .i64, [.i .i64], 8, [], false⟩),
  (4, ⟨.bool, [.b], 1, [], false⟩),
  (5, ⟨.int .u8, [.i .u8], 1, [], false⟩),
  (9, ⟨.str, [.s], 16, [], false⟩),
  (22, ⟨.slice 79, [.sl 79], 24, [], false⟩),
  (23, ⟨.slice 112, [.sl 112], 24, [], false⟩),
  (27, ⟨.slice 123, [.sl 123], 24, [], false⟩),
  (29, ⟨.struct, [.s, .s], 32, [(0, 1, false), (1, 1, false)], false⟩),
  (30, ⟨.slice 127, [.sl 127], 24, [], false⟩),
  (32, ⟨.struct, [.s, .s, .sl 123, .s, .s, .sl 127], 112, [(0, 1, false), (1, 1, false), (2, 1, false), (3, 2, true), (5, 1, false)], false⟩),
  (35, ⟨.slice 84, [.sl 84], 24, [], false⟩),
  (36, ⟨.slice 109, [.sl 109], 24, [], false⟩),
  (46, ⟨.slice 81, [.sl 81], 24, [], false⟩),
  (55, ⟨.slice 9, [.sl 9], 24, [], false⟩),
  (63, ⟨.slice 32, [.sl 32], 24, [], false⟩),
  (74, ⟨.slice 164, [.sl 164], 24, [], false⟩),
  (75, ⟨.slice 170, [.sl 170], 24, [], false⟩),
  (76, ⟨.slice 173, [.sl 173], 24, [], false⟩),
  (77, ⟨.slice 177, [.sl 177], 24, [], false⟩),
  (79, ⟨.struct, [.i .i64, .b, .s, .s, .sl 9, .sl 164, .sl 170, .sl 173, .sl 112, .b, .sl 177], 200, [(0, 1, false), (1, 1, false), (2, 1, false), (3, 1, false), (4, 1, false), (5, 1, false), (6, 1, false), (7, 1, false), (8, 1, false), (9, 1, false), (10, 1, false)], false⟩),
  (81, ⟨.struct, [.i .i64, .s, .s], 40, [(0, 1, false), (1, 1, false), (2, 1, false)], false⟩),
  (82, ⟨.slice 145, [.sl 145], 24, [], false⟩),
  (84, ⟨.struct, [.i .i64, .b, .s, .s, .sl 9, .sl 32, .sl 123, .sl 145, .sl 109, .b, .sl 127], 200, [(0, 1, false), (1, 1, false), (2, 1, false), (3, 1, false), (4, 1, false), (5, 1, false), (6, 1, false), (7, 1, false), (8, 1, false), (9, 1, false), (10, 1, false)], false⟩),
  (109, ⟨.struct, [.i .i64, .s], 24, [(0, 1, false), (1, 1, false)], false⟩),
  (112, ⟨.struct, [.i .i64, .s], 24, [(0, 1, false), (1, 1, false)], false⟩),
  (119, ⟨.slice 121, [.sl 121], 24, [], false⟩),
  (121, ⟨.struct, [.i .i64, .s, .sl 121, .sl 9], 72, [(0, 1, false), (1, 1, false), (2, 1, false), (3, 1, false)], false⟩),
  (123, ⟨.struct, [.s, .s, .s, .s, .b, .i .i64, .s, .sl 121, .sl 9, .sl 127], 168, [(0, 1, false), (1, 1, false), (2, 2, true), (4, 1, false), (5, 4, true), (9, 1, false)], false⟩),
  (125, ⟨.slice 160, [.sl 160], 24, [], false⟩),
  (127, ⟨.struct, [.s, .sl 160], 40, [(0, 1, false), (1, 1, false)], false⟩),
  (143, ⟨.slice 5, [.sl 5], 24, [], false⟩),
  (145, ⟨.struct, [.s, .s, .sl 127], 56, [(0, 1, false), (1, 1, false), (2, 1, false)], false⟩),
  (160, ⟨.struct, [.s, .i .i64, .s, .sl 121, .sl 9], 88, [(0, 1, false), (1, 4, true)], false⟩),
  (162, ⟨.struct, [.s, .s], 32, [(0, 1, false), (1, 1, false)], false⟩),
  (164, ⟨.struct, [.s, .s, .sl 170, .s, .s, .sl 177], 112, [(0, 1, false), (1, 1, false), (2, 1, false), (3, 2, true), (5, 1, false)], false⟩),
  (166, ⟨.slice 168, [.sl 168], 24, [], false⟩),
  (168, ⟨.struct, [.i .i64, .s, .sl 168, .sl 9], 72, [(0, 1, false), (1, 1, false), (2, 1, false), (3, 1, false)], false⟩),
  (170, ⟨.struct, [.s, .s, .s, .s, .b, .i .i64, .s, .sl 168, .sl 9, .sl 177], 168, [(0, 1, false), (1, 1, false), (2, 2, true), (4, 1, false), (5, 4, true), (9, 1, false)], false⟩),
  (173, ⟨.struct, [.s, .s, .sl 177], 56, [(0, 1, false), (1, 1, false), (2, 1, false)], false⟩),
  (175, ⟨.slice 221, [.sl 221], 24, [], false⟩),
  (177, ⟨.struct, [.s, .sl 221], 40, [(0, 1, false), (1, 1, false)], false⟩),
  (221, ⟨.struct, [.s, .i .i64, .s, .sl 168, .sl 9], 88, [(0, 1, false), (1, 4, true)], false⟩)]
theorem tys : tyB Tryz.prog tyL = true := by kernel_rfl
noncomputable def fi67 : FI := mkFI Tryz.f67 1 [.ct (.i .i64)] [(false, [.ct .s])] (fun _ => (.s .n (.s .n (.s .n (.s (.b (.b (.s .n (.b (.s (.r [0, 0, 0, 0, 0, 0, 0, 0, 0] none) .n) ⟨oi :: ou :: ou :: os :: uu 16 [], .u :: []⟩)) ⟨oi :: ou :: ou :: os :: uu 16 [], .u :: []⟩) ⟨uu 3 (os :: uu 16 []), .u :: []⟩) .n)))))
noncomputable def E_laws_markTextL1 : List DC → Out := fun v1 =>
    if (decide ((v1.getD 0 d0).ii > (0 : Int))) = true then
      Out.andThenB (if (10 : Int) = 0 then
          .fail
        else
          if (rowBytes [[DC.i (IntKind.u8.wrap (IntKind.i64.wrap ((48 : Int) + (((v1.getD 0 d0).ii).tmod (10 : Int)))))]]).length + ((v1.getD 1 d0).ss).length < LIM then
            if (10 : Int) = 0 then
              .fail
            else
              .norm [.i (IntKind.i64.wrap (((v1.getD 0 d0).ii).tdiv (10 : Int))), .s ((rowBytes [[DC.i (IntKind.u8.wrap (IntKind.i64.wrap ((48 : Int) + (((v1.getD 0 d0).ii).tmod (10 : Int)))))]]) ++ ((v1.getD 1 d0).ss))]
          else
            .fail) 1 fun v2 =>
      .norm [.i ((v2.getD 0 d0).ii), .s ((v2.getD 1 d0).ss)]
    else
      .ex 0 [.s ((v1.getD 1 d0).ss)]
noncomputable def E_laws_markText (a : List DC) : Out :=
    if (decide ((a.getD 0 d0).ii ≤ (0 : Int))) = true then
      .ret [.s ([109, 48] : List UInt8)]
    else
      Out.andThenB (Loop E_laws_markTextL1 [.i ((a.getD 0 d0).ii), .s ([] : List UInt8)]) 0 fun v3 =>
      if ([109] : List UInt8).length + ((v3.getD 0 d0).ss).length < LIM then
        .ret [.s (([109] : List UInt8) ++ ((v3.getD 0 d0).ss))]
      else
        .fail
noncomputable def cfg0 : Cfg := ⟨fun t => look t tyL, fun f => look f [(67, fi67)]⟩
theorem fns0 : ∀ x ∈ [(67, fi67)], FnOk Tryz.prog Glob.none cfg0.ty x.1 x.2 := all_cons (mkFI_ok Tryz.func67 (by kernel_rfl)) all_nil
theorem eq0 (a : List DC) : Run cfg0 67 ⟨[.one (.i .i64)], []⟩ a = E_laws_markText a := (Run_eq cfg0 67 _ a).trans (by kernel_rfl)
theorem mt_step (k : Int) (o : List UInt8) (h0 : 0 < k) (h1 : k < 4611686018427387904) (ho : o.length ≤ 100) : ∃ c, E_laws_markTextL1 [.i k, .s o] = .norm [.i (k / 10), .s (c :: o)] := by
  have hw : IntKind.i64.wrap (k.tdiv 10) = k / 10 := by
    rw [Int.tdiv_eq_ediv_of_nonneg (by omega)]
    exact wrap64 (by omega) (by omega)
  have hl : 1 + o.length < LIM := by unfold LIM; omega
  refine ⟨UInt8.ofNat (IntKind.u8.wrap (IntKind.i64.wrap (48 + k.tmod 10))).toNat, ?_⟩
  simp only [E_laws_markTextL1, List.getD_cons_zero, List.getD_cons_succ, DC.ii_i, DC.ss_s, hw]
  simp [h0, hl, rowBytes, Out.andThenB]
  try rfl
theorem mt_loop : ∀ (m : Nat) (k : Int) (o : List UInt8), 0 ≤ k → k < 4611686018427387904 → k < 10 ^ m → o.length + m ≤ 100 → ∃ s : List UInt8, s.length ≤ 100 ∧ Loop E_laws_markTextL1 [.i k, .s o] = .ex 0 [.s s]
  | 0, k, o, h0, _, h1, ho => by
    have : k = 0 := by simp at h1; omega
    subst this
    exact ⟨o, by omega, Loop_ex (by simp [E_laws_markTextL1])⟩
  | m + 1, k, o, h0, hb, h1, ho => by
    by_cases hk : 0 < k
    · obtain ⟨c, hc⟩ := mt_step k o hk hb (by omega)
      rw [Loop_norm hc]
      refine mt_loop m (k / 10) (c :: o) (by omega) (by omega) ?_ (by simp; omega)
      rw [Int.pow_succ] at h1
      omega
    · have : k = 0 := by omega
      subst this
      exact ⟨o, by omega, Loop_ex (by simp [E_laws_markTextL1])⟩
theorem mt_ok (k : Int) (h0 : 0 ≤ k) (h1 : k < 4611686018427387904) : ∃ s, E_laws_markText [.i k] = .ret [.s s] := by
  by_cases hk : k ≤ 0
  · exact ⟨[109, 48], by simp [E_laws_markText, hk]⟩
  · obtain ⟨s, hs, h⟩ := mt_loop 19 k [] h0 h1 (by have : (10 : Int) ^ 19 = 10000000000000000000 := by decide
                                                   omega) (by simp)
    have hl : 1 + s.length < LIM := by unfold LIM; omega
    refine ⟨109 :: s, ?_⟩
    simp only [E_laws_markText, List.getD_cons_zero, List.getD_cons_succ, DC.ii_i, DC.ss_s, h, Out.andThenB]
    simp [hk, hl, Nat.add_comm]
    try (unfold LIM; omega)
noncomputable def mtx (k : Int) : List UInt8 := match E_laws_markText [.i k] with | .ret [.s s] => s | _ => []
theorem mtx_eq {k : Int} (h0 : 0 ≤ k) (h1 : k < 4611686018427387904) : E_laws_markText [.i k] = .ret [.s (mtx k)] := by
  obtain ⟨s, h⟩ := mt_ok k h0 h1
  unfold mtx
  rw [h]
noncomputable def mT : Int → Option (List UInt8) := fun k => some (mtx k)
def ms23 : List MA := [.int 0, .inc, .bool 1, .inc, .txt 2, .inc, .txt 3, .inc, .sub 4 30, .upd, .sub 5 68, .upd, .sub 6 48, .upd, .sub 7 69, .upd, .sub 8 47, .upd, .bool 9, .inc, .sub 10 49, .upd]
def ms24 : List MA := [.int 0, .inc, .txt 1, .inc, .txt 2, .inc]
def ms30 : List MA := [.txt 0, .inc]
def ms47 : List MA := [.int 0, .inc, .txt 1, .inc]
def ms48 : List MA := [.txt 0, .inc, .txt 1, .inc, .txt 2, .inc, .txt 3, .inc, .bool 4, .inc, .int 5, .inc, .txt 6, .inc, .sub 7 99, .upd, .sub 8 30, .upd, .sub 9 49, .upd]
def ms49 : List MA := [.txt 0, .inc, .sub 1 100, .upd]
def ms68 : List MA := [.txt 0, .inc, .txt 1, .inc, .sub 2 48, .upd, .txt 3, .inc, .txt 4, .inc, .sub 5 49, .upd]
def ms69 : List MA := [.txt 0, .inc, .txt 1, .inc, .sub 2 49, .upd]
def ms99 : List MA := [.int 0, .inc, .txt 1, .inc, .sub 2 99, .upd, .sub 3 30, .upd]
def ms100 : List MA := [.txt 0, .inc, .int 1, .inc, .txt 2, .inc, .sub 3 99, .upd, .sub 4 30, .upd]
noncomputable def ti9 : TI := ⟨.str, [.s], 16, [], false⟩
noncomputable def ti32 : TI := ⟨.struct, [.s, .s, .sl 123, .s, .s, .sl 127], 112, [(0, 1, false), (1, 1, false), (2, 1, false), (3, 2, true), (5, 1, false)], false⟩
noncomputable def ti81 : TI := ⟨.struct, [.i .i64, .s, .s], 40, [(0, 1, false), (1, 1, false), (2, 1, false)], false⟩
noncomputable def ti84 : TI := ⟨.struct, [.i .i64, .b, .s, .s, .sl 9, .sl 32, .sl 123, .sl 145, .sl 109, .b, .sl 127], 200, [(0, 1, false), (1, 1, false), (2, 1, false), (3, 1, false), (4, 1, false), (5, 1, false), (6, 1, false), (7, 1, false), (8, 1, false), (9, 1, false), (10, 1, false)], false⟩
noncomputable def ti109 : TI := ⟨.struct, [.i .i64, .s], 24, [(0, 1, false), (1, 1, false)], false⟩
noncomputable def ti121 : TI := ⟨.struct, [.i .i64, .s, .sl 121, .sl 9], 72, [(0, 1, false), (1, 1, false), (2, 1, false), (3, 1, false)], false⟩
noncomputable def ti123 : TI := ⟨.struct, [.s, .s, .s, .s, .b, .i .i64, .s, .sl 121, .sl 9, .sl 127], 168, [(0, 1, false), (1, 1, false), (2, 2, true), (4, 1, false), (5, 4, true), (9, 1, false)], false⟩
noncomputable def ti127 : TI := ⟨.struct, [.s, .sl 160], 40, [(0, 1, false), (1, 1, false)], false⟩
noncomputable def ti145 : TI := ⟨.struct, [.s, .s, .sl 127], 56, [(0, 1, false), (1, 1, false), (2, 1, false)], false⟩
noncomputable def ti160 : TI := ⟨.struct, [.s, .i .i64, .s, .sl 121, .sl 9], 88, [(0, 1, false), (1, 4, true)], false⟩
def mTab : Nat → Option (List MA) := fun f => look f [(23, ms23), (24, ms24), (30, ms30), (47, ms47), (48, ms48), (49, ms49), (68, ms68), (69, ms69), (99, ms99), (100, ms100)]
def mMt : Nat → Option Nat := fun f => look f [(23, 84), (24, 81), (30, 9), (47, 109), (48, 123), (49, 127), (68, 32), (69, 145), (99, 121), (100, 160)]
theorem mtabok : TabOk Tryz.prog (fun t => look t tyL) mT 67 mMt mTab where
  tyo := (tyB_ok tys).1
  fd := by
    rintro f (rfl | ⟨e, he⟩)
    · exact ⟨_, Tryz.func67, by kernel_rfl, rfl⟩
    have := look_mem he
    simp only [List.mem_cons, Prod.mk.injEq, List.not_mem_nil, or_false] at this
    rcases this with ⟨rfl, rfl⟩ | ⟨rfl, rfl⟩ | ⟨rfl, rfl⟩ | ⟨rfl, rfl⟩ | ⟨rfl, rfl⟩ | ⟨rfl, rfl⟩ | ⟨rfl, rfl⟩ | ⟨rfl, rfl⟩ | ⟨rfl, rfl⟩ | ⟨rfl, rfl⟩
    · exact ⟨_, Tryz.func23, by kernel_rfl, rfl⟩
    · exact ⟨_, Tryz.func24, by kernel_rfl, rfl⟩
    · exact ⟨_, Tryz.func30, by kernel_rfl, rfl⟩
    · exact ⟨_, Tryz.func47, by kernel_rfl, rfl⟩
    · exact ⟨_, Tryz.func48, by kernel_rfl, rfl⟩
    · exact ⟨_, Tryz.func49, by kernel_rfl, rfl⟩
    · exact ⟨_, Tryz.func68, by kernel_rfl, rfl⟩
    · exact ⟨_, Tryz.func69, by kernel_rfl, rfl⟩
    · exact ⟨_, Tryz.func99, by kernel_rfl, rfl⟩
    · exact ⟨_, Tryz.func100, by kernel_rfl, rfl⟩
  tfc := by
    intro k s w h0 h1 hs
    obtain rfl : mtx k = s := Option.some.inj hs
    exact int_calls (cfg := cfg0) (G := Glob.none) (tyB_ok tys).1 (by kernel_rfl) (fn_ok fns0) (f := 67) (fi := fi67) (by kernel_rfl) ⟨trivial, fun _ h => h.elim⟩ rfl rfl (Run.evt ((eq0 _).trans (mtx_eq h0 h1)))
  tfs := fun k _ _ => ⟨_, rfl⟩
  sh := by
    intro f e he
    have := look_mem he
    simp only [List.mem_cons, Prod.mk.injEq, List.not_mem_nil, or_false] at this
    rcases this with ⟨rfl, rfl⟩ | ⟨rfl, rfl⟩ | ⟨rfl, rfl⟩ | ⟨rfl, rfl⟩ | ⟨rfl, rfl⟩ | ⟨rfl, rfl⟩ | ⟨rfl, rfl⟩ | ⟨rfl, rfl⟩ | ⟨rfl, rfl⟩ | ⟨rfl, rfl⟩
    · exact ⟨ti84, Tryz.f23, ms23, by kernel_rfl, Tryz.func23, by kernel_rfl, by kernel_rfl⟩
    · exact ⟨ti81, Tryz.f24, ms24, by kernel_rfl, Tryz.func24, by kernel_rfl, by kernel_rfl⟩
    · exact ⟨ti9, Tryz.f30, ms30, by kernel_rfl, Tryz.func30, by kernel_rfl, by kernel_rfl⟩
    · exact ⟨ti109, Tryz.f47, ms47, by kernel_rfl, Tryz.func47, by kernel_rfl, by kernel_rfl⟩
    · exact ⟨ti123, Tryz.f48, ms48, by kernel_rfl, Tryz.func48, by kernel_rfl, by kernel_rfl⟩
    · exact ⟨ti127, Tryz.f49, ms49, by kernel_rfl, Tryz.func49, by kernel_rfl, by kernel_rfl⟩
    · exact ⟨ti32, Tryz.f68, ms68, by kernel_rfl, Tryz.func68, by kernel_rfl, by kernel_rfl⟩
    · exact ⟨ti145, Tryz.f69, ms69, by kernel_rfl, Tryz.func69, by kernel_rfl, by kernel_rfl⟩
    · exact ⟨ti121, Tryz.f99, ms99, by kernel_rfl, Tryz.func99, by kernel_rfl, by kernel_rfl⟩
    · exact ⟨ti160, Tryz.f100, ms100, by kernel_rfl, Tryz.func100, by kernel_rfl, by kernel_rfl⟩
section
variable {P : Program} {ty : Nat → Option TI}
end
end Go.Proofs.QV

namespace Go.Proofs.QV
open Go Go.Sort
set_option linter.unusedVariables false
set_option linter.unusedSimpArgs false
section
variable {P : Program} {ty : Nat → Option TI} {A : An} {g : Gh} {tm : List C} {H : List HS} {a : Act} {w : World}
theorem stf_fn {G : Glob} {f : Nat} {fi : FI} {q : Nat → List HS → List C → Option (Nat × List HS × C)} (h : FnOk P G ty f fi) (hs : StOK P G ty f q) : FnOk P G ty f { fi with stf := some q } :=
  ⟨h.ex, h.prim, h.mark, fun q' e => by (cases e; exact hs)⟩
end
section
variable {P : Program} {ty : Nat → Option TI} {A : An} {g : Gh} {tm : List C} {H : List HS} {a : Act} {w : World}
theorem bool2_calls {cfg : Cfg} {G : Glob} (hty : TyOk P cfg.ty) (hm : P.follows .mixedOrders = true) (hfn : ∀ f fi, cfg.fn f = some fi → FnOk P G cfg.ty f fi) {f : Nat} {fi : FI} (hf : cfg.fn f = some fi) {w : World}
    (hG : G.ok w ∧ ∀ b, G.gb b → b < w.heap.size) {cts : List CT} (hpk : fi.pk = [.ag cts, .ag cts]) (hrk : fi.rk = [(false, [.ct .b])]) {x d : List DC} {u1 u2 : List Value} {F1 F2 : List Nat} {r : Bool}
    (h1 : RdL cfg.ty w cts x u1 F1) (h2 : RdL cfg.ty w cts d u2 F2) (hF1 : ∀ b ∈ F1, b < w.heap.size) (hF2 : ∀ b ∈ F2, b < w.heap.size)
    (hev : Evt (fun n => callF cfg n f ⟨fi.pk.map pkKC, []⟩ (x ++ d)) (.ret [.b r])) :
    Calls P f #[.agg u1.toArray, .agg u2.toArray] w fun e w' => e = .returned (.bool r) ∧ RowKit.Below w.heap.size w w' := by
  have hrd : RdL cfg.ty w (fi.pk.flatMap PK.cts) (x ++ d) (u1 ++ u2) (F1 ++ F2) := by
    rw [hpk]
    simpa [PK.cts] using h1.append h2
  obtain ⟨A, g, h2', h3, h4, h5, h6, h7⟩ := begin_rel0 (ty := cfg.ty) (w := w) (vals := #[.agg u1.toArray, .agg u2.toArray]) (d := x ++ d) (us := u1 ++ u2) (F := F1 ++ F2) fi (by rw [hpk]; rfl)
    hrd (fun b hb => by rcases List.mem_append.1 hb with hb | hb; exact hF1 b hb; exact hF2 b hb) (by
      rw [hpk]
      exact ⟨u1, u2, rfl, by simp [(RdL.length h1).1], rfl, u2, [], rfl, by simp [(RdL.length h2).1], by simp, rfl⟩)
  obtain ⟨N, hN⟩ := hev
  have hcalls := callF_sound hty hm hfn N f fi ⟨fi.pk.map pkKC, []⟩ (x ++ d) [.b r] hf (hN N (Nat.le_refl _)) A g #[.agg u1.toArray, .agg u2.toArray] w ⟨by rw [h4]; exact hG.1, fun b hb => ⟨by rw [h4]; exact hG.2 b hb, h6 b, h7 b⟩⟩ h2' h3 h4 h5
  refine Calls.mono hcalls fun e w' he => ?_
  cases e with
  | returned rv =>
    obtain ⟨vs, rfl, hres⟩ := he
    obtain ⟨⟨gr, H0, H1, us1, us2, q1, q2, q3, _⟩, hkeep⟩ := hres
    rw [hrk] at q1 q3
    match vs, q1 with
    | [v], ⟨u1', u2', z1, z2, z3, z4, z5⟩ =>
      have z5' : u2' = [] := z5
      subst z5'
      have := z4 rfl
      subst this
      rw [List.append_nil] at z1
      subst z1
      have hus2 : us2 = [] := q2
      subst hus2
      obtain ⟨⟨dd, y1, y2, y3⟩, _⟩ := q3
      obtain ⟨b, rfl, rfl⟩ := y3
      have := y2 0 (by simp [RK.k1, CT.k1, K1.cnt])
      simp only [Nat.add_zero, List.getD_cons_zero] at this
      have hx : b = r := by
        have : DC.b r = DC.b b := this
        simpa using this.symm
      subst hx
      refine ⟨rfl, ⟨by rw [hkeep.os, h4], by rw [hkeep.tape, h4], by rw [hkeep.output, h4], by have := hkeep.size; rwa [h4] at this, fun b hb => ?_⟩⟩
      have := hkeep.block b (by rw [h4]; exact hb) (h6 b) (h7 b)
      rwa [h4] at this
    | [], q1 => exact q1.elim
    | _ :: _ :: _, ⟨_, _, _, _, _, _, h⟩ => exact h.elim
  | panicked ch => exact he.elim
  | outgrown => exact he.elim
theorem Rel.below (h : Rel ty A g ⟨tm, H⟩ a w) {w' : World} (hb : RowKit.Below w.heap.size w w') : Rel ty A g ⟨tm, H⟩ a w' := by
  have hch : Ch g g H H w w' := ⟨fun _ h => h, fun b hb' => hb.block b (h.lt b hb'), fun _ h => h, fun _ _ h => ⟨h, rfl⟩, fun _ _ h => ⟨h, rfl⟩⟩
  exact h.ch hch (fun id o ho => OR.mono hch rfl rfl rfl (fun b hb' => ⟨hb.block b (h.oblk_lt ho hb'), oblk_notI h ho hb'⟩) (h.ob id o ho)) h.sep (fun b hb' => Nat.lt_of_lt_of_le (h.lt b hb') hb.size) h.inI h.ow h.pb
    (h.keep.trans hb.os hb.tape hb.output hb.size fun b hb' _ _ => hb.block b (Nat.lt_of_lt_of_le hb' h.keep.size))
structure El (ty : Nat → Option TI) (w : World) (cts : List CT) where
  v : List Value
  d : List DC
  F : List Nat
  rd : RdL ty w cts d v F
  lt : ∀ b ∈ F, b < w.heap.size
def zV : CT → Value
  | .b => .bool false
  | .i k => .int k 0
  | .s => .string ⟨#[]⟩
  | .sl _ => .slice none 0 0
theorem zRd (ty : Nat → Option TI) (w : World) : ∀ cts : List CT, RdL ty w cts (cts.map zeroD) (cts.map zV) []
  | [] => .nil
  | .b :: l => .cons _ _ _ _ _ _ [] [] (.b false) (zRd ty w l)
  | .i k :: l => .cons _ _ _ _ _ _ [] [] (.i k 0) (zRd ty w l)
  | .s :: l => .cons _ _ _ _ _ _ [] [] (.s []) (zRd ty w l)
  | .sl e :: l => .cons _ _ _ _ _ _ [] [] (.nil e none 0) (zRd ty w l)
instance (ty : Nat → Option TI) (w : World) (cts : List CT) : Inhabited (El ty w cts) := ⟨⟨_, _, [], zRd ty w cts, fun b hb => by cases hb⟩⟩
theorem els {cts : List CT} : ∀ {l : List (List DC)} {vs : List Value} {F : List Nat}, RdV ty w cts l vs F → (∀ b ∈ F, b < w.heap.size) → ∃ zs : List (El ty w cts), zs.map El.d = l ∧ zs.flatMap El.v = vs
  | _, _, _, .nil _, _ => ⟨[], rfl, rfl⟩
  | _, _, _, .cons _ x l v vs F G h1 h2, h => by
    obtain ⟨zs, a, b⟩ := els h2 fun c hc => h c (by simp [hc])
    exact ⟨⟨v, x, F, h1, fun c hc => h c (by simp [hc])⟩ :: zs, by simp [a], by simp [b]⟩
theorem els_get {cts : List CT} : ∀ (zs : List (El ty w cts)) (j i : Nat) (v : Value), j < zs.length → (zs[j]!).v[i]? = some v → (zs.flatMap El.v)[j * cts.length + i]? = some v
  | [], j, i, v, h, _ => by simp at h
  | z :: zs, 0, i, v, _, hv => by
    have hv : z.v[i]? = some v := by simpa using hv
    rw [Nat.zero_mul, Nat.zero_add, List.flatMap_cons, List.getElem?_append_left]
    · exact hv
    · rcases Nat.lt_or_ge i z.v.length with h' | h'
      · exact h'
      · simp [List.getElem?_eq_none h'] at hv
  | z :: zs, j + 1, i, v, h, hv => by
    have hl := (RdL.length z.rd).1
    have := els_get zs j i v (by simpa using h) (by simpa using hv)
    rw [List.flatMap_cons, List.getElem?_append_right (by rw [hl, Nat.succ_mul]; omega), hl]
    rw [show (j + 1) * cts.length + i - cts.length = j * cts.length + i by rw [Nat.succ_mul]; omega]
    exact this
def plainC : CT → S → Option DC
  | .b, .bool b => some (.b b)
  | .i k, .int k' n => if k' = k then some (.i n) else none
  | .s, .str l => some (.s l)
  | .sl e, .sl e' l => if e' = e then some (.sl l) else none
  | .sl _, .nil => some (.sl [])
  | _, _ => none
def plainL : List CT → List S → Option (List DC)
  | [], [] => some []
  | t :: ts, s :: ss =>
    match plainC t s with
    | some d => (match plainL ts ss with | some ds => some (d :: ds) | none => none)
    | none => none
  | _, _ => none
theorem plainL_ok : ∀ {ts : List CT} {ss : List S} {vs : List Value} {ds : List DC}, SRL ty g H w ss vs → plainL ts ss = some ds → ∃ F, RdL ty w ts ds vs F ∧ ∀ b ∈ F, g.I b
  | [], [], [], ds, _, e => by
    simp only [plainL, Option.some.injEq] at e
    subst e
    exact ⟨[], .nil, fun b hb => by cases hb⟩
  | t :: ts, s :: ss, v :: vs, ds, ⟨hs, hss⟩, e => by
    simp only [plainL] at e
    split at e
    · rename_i d hd
      split at e
      · rename_i ds' hds
        simp only [Option.some.injEq] at e
        subst e
        obtain ⟨G, h1, h2⟩ := plainL_ok hss hds
        have hc : ∃ F, RdC ty w t d v F ∧ ∀ b ∈ F, g.I b := by
          unfold plainC at hd
          split at hd
          · simp only [Option.some.injEq] at hd
            subst hd
            exact ⟨[], by rw [show v = _ from hs]; exact .b _, fun b hb => by cases hb⟩
          · split at hd
            · rename_i hk
              simp only [Option.some.injEq] at hd
              subst hd hk
              exact ⟨[], by rw [show v = _ from hs]; exact .i _ _, fun b hb => by cases hb⟩
            · simp at hd
          · simp only [Option.some.injEq] at hd
            subst hd
            exact ⟨[], by rw [show v = _ from hs]; exact .s _, fun b hb => by cases hb⟩
          · split at hd
            · rename_i hk
              simp only [Option.some.injEq] at hd
              subst hd hk
              exact hs
            · simp at hd
          · simp only [Option.some.injEq] at hd
            subst hd
            exact ⟨[], by rw [show v = _ from hs]; exact .nil _ _ _, fun b hb => by cases hb⟩
          · simp at hd
        obtain ⟨F, h3, h4⟩ := hc
        exact ⟨F ++ G, .cons _ _ _ _ _ _ _ _ h3 h1, fun b hb => by rcases List.mem_append.1 hb with hb | hb; exact h4 b hb; exact h2 b hb⟩
      · simp at e
    · simp at e
  | [], _ :: _, _, _, _, e => by simp [plainL] at e
  | _ :: _, [], _, _, _, e => by simp [plainL] at e
  | [], [], _ :: _, _, h, _ => h.elim
  | _ :: _, _ :: _, [], _, h, _ => h.elim
def idxP (p : List DC → Bool) (l : List (List DC)) : Int := match l.findIdx? p with | some i => (i : Int) | none => -1
def qFnd (R : (List DC → Bool) → List (List DC) → C) (e cf : Nat) (cts : List CT) (Pd : List DC → List DC → Bool) : Nat → List HS → List C → Option (Nat × List HS × C) := fun _ H args =>
  match args with
  | [.one (.own id), .one (.fn f [vid])] =>
    match getH H id, getH H vid with
    | .live (.row e' l), .live (.var t cs) =>
      match Nat.beq (und e') e, Nat.beq f cf, Nat.beq t e, plainL cts cs with
      | true, true, true, some d => some (l.length, H, R (fun x => Pd x d) l)
      | _, _, _, _ => none
    | _, _ => none
  | _ => none
def rAny (p : List DC → Bool) (l : List (List DC)) : C := .one (.bool (l.any p))
def rIdx (p : List DC → Bool) (l : List (List DC)) : C := .one (.int .i64 (idxP p l))
theorem fnd_ok {R : (List DC → Bool) → List (List DC) → C} {V : (cts : List CT) → (w : World) → (El ty w cts → Bool) → List (El ty w cts) → Value} {f e cf : Nat} {cts : List CT} {Pd : List DC → List DC → Bool} (hd0 : dp e = false)
    (hte : ∀ te, ty e = some te → te.cts = cts) (hcl : cts.length = cts.length)
    (hC : ∀ (w : World) (p : El ty w cts → Bool) (lb : Array Value) (b c : Nat) (zs : List (El ty w cts)), PredBelow P cf lb (fun x => .agg x.v.toArray) p w → zs.length ≤ 9223372036854775807 → b < w.heap.size →
      (∀ j, j < zs.length → ∀ i v, (zs[j]!).v[i]? = some v → w.cell? ⟨b, 0 + j * cts.length + i, none⟩ = some v) →
      Calls P f #[.slice (some ⟨b, 0, none⟩) zs.length c, .func (.func cf) #[] lb] w fun e w' => e = .returned (V cts w p zs) ∧ RowKit.Below w.heap.size w w')
    (hN : ∀ (fv : Value) (w : World), Calls P f #[.slice none 0 0, fv] w fun e w' => e = .returned (V cts w (fun _ => false) []) ∧ w' = w)
    (hV : ∀ (w : World) (p : El ty w cts → Bool) (q : List DC → Bool) (zs : List (El ty w cts)), (∀ z ∈ zs, p z = q z.d) → ∀ {g : Gh} {H : List HS} {w' : World}, CR ty g H w' (R q (zs.map El.d)) (V cts w p zs))
    (hP : ∀ (W : World) (x d : List DC) (u1 u2 : List Value) (F1 F2 : List Nat) (B : Nat), RdL ty W cts x u1 F1 → RdL ty W cts d u2 F2 → (∀ b ∈ F1, b < W.heap.size) → (∀ b ∈ F2, b < W.heap.size) → W.heap[B]? = some (.cells u2.toArray e (0, 0)) →
      Calls P cf (#[.agg u1.toArray] ++ #[.pointer (some ⟨B, 0, none⟩)]) W fun e w' => e = .returned (.bool (Pd x d)) ∧ RowKit.Below W.heap.size W w') : StOK P Glob.none ty f (qFnd R e cf cts Pd) := by
  intro A g tm H H' a w base n args vals c hA h hlen hcr hq hlim
  unfold qFnd at hq
  split at hq
  · rename_i id f' vid
    split at hq
    · rename_i e' l t cs hr hvr
      split at hq
      · rename_i d b1 b2 b3 hpl
        obtain rfl := Nat.eq_of_beq_eq_true b1
        obtain rfl := Nat.eq_of_beq_eq_true b2
        obtain rfl := Nat.eq_of_beq_eq_true b3
        simp only [Option.some.injEq, Prod.mk.injEq] at hq
        obtain ⟨rfl, rfl, rfl⟩ := hq
        match vals, hlen with
        | [v1, v2], _ =>
          have hv1 := hcr 0 _ v1 rfl rfl
          have hv2 := hcr 1 _ v2 rfl rfl
          have e1 : v1 = g.val id := hv1.2.2 ⟨_, _, .inl hr⟩
          obtain ⟨lb, e2, hl2, hc2⟩ := hv2
          obtain ⟨_, hc3⟩ := hc2 0 vid rfl
          have hlb := hc3 ⟨_, _, hvr⟩
          have hlbe : lb = #[.pointer (some ⟨g.blk vid, 0, none⟩)] := by
            apply Array.ext_getElem?
            intro i
            match i with
            | 0 => rw [hlb]; rfl
            | i + 1 => rw [Array.getElem?_eq_none (by rw [hl2]; simp), Array.getElem?_eq_none (by simp)]
          obtain ⟨us, g1, g2, g3, g4⟩ := h.ob vid _ hvr
          obtain ⟨F2, r2, i2⟩ := plainL_ok g2 hpl
          have l2 : ∀ b ∈ F2, b < w.heap.size := fun b hb => h.lt b (i2 b hb)
          obtain ⟨ti, vs, F, k1, k0, k2, k3, k4, k5⟩ := h.ob id _ hr
          have hct := hte ti k1
          rw [hct] at k2 k3
          have lF : ∀ b ∈ F, b < w.heap.size := fun b hb => by
            rcases k4.all b hb with hb | hb
            · exact h.lt b hb
            · exact h.oblk_lt hr hb
          obtain ⟨zs, z1, z2⟩ := els k3 lF
          have hzl : zs.length = l.length := by rw [← z1, List.length_map]
          have fin : ∀ (p : El ty w cts → Bool) (zs' : List (El ty w cts)) (w' : World), zs' = zs → (∀ z ∈ zs', p z = Pd z.d d) → RowKit.Below w.heap.size w w' →
              ∃ v g', Ending.returned (V cts w p zs') = .returned v ∧ Rel ty A g' ⟨tm, H⟩ a w' ∧ (∀ b, g.I b → g'.I b) ∧ CR ty g' H w' (R (fun x => Pd x d) l) v := by
            intro p zs' w' hz hp hb
            subst hz
            refine ⟨_, g, rfl, h.below hb, fun _ h => h, ?_⟩
            rw [← z1]
            exact hV w p _ zs' hp
          subst e1 e2
          rcases k2.2 with ⟨hv, hn⟩ | ⟨b, cap, cur, hv, hk, hg, hnc, hcm, hcs, htake⟩
          · have hz0 : zs = [] := List.eq_nil_of_length_eq_zero (by omega)
            show Calls P f #[g.val id, _] w _
            rw [hv]
            refine Calls.mono (hN _ w) fun en w' hen => ?_
            obtain ⟨rfl, rfl⟩ := hen
            have := fin (fun _ => false) [] w' hz0.symm (fun z hz => by cases hz) (.refl _ _)
            obtain ⟨v, g', q1, q2, q3, q4⟩ := this
            exact ⟨v, g', by simpa using q1, q2, q3, q4⟩
          · show Calls P f #[g.val id, .func (.func f') #[] lb] w _
            rw [hv, hlbe]
            have hbl : b < w.heap.size := block_lt hg
            have hpb : PredBelow P f' #[.pointer (some ⟨g.blk vid, 0, none⟩)] (fun x : El ty w cts => .agg x.v.toArray) (fun x => Pd x.d d) w := by
              intro W x hW
              refine Calls.mono (hP W x.d d x.v us x.F F2 (g.blk vid) (x.rd.frame fun b hb => hW.block b (x.lt b hb)) (r2.frame fun b hb => hW.block b (l2 b hb)) (fun b hb => Nat.lt_of_lt_of_le (x.lt b hb) hW.size) (fun b hb => Nat.lt_of_lt_of_le (l2 b hb) hW.size)
                (by rw [hW.block _ (block_lt g1)]; exact g1)) fun en w' hen => ?_
              obtain ⟨rfl, hb⟩ := hen
              exact ⟨rfl, hW.os ▸ hb.os, hb.tape.trans hW.tape, hb.output.trans hW.output, Nat.le_trans hW.size hb.size, fun k hk => (hb.block k (Nat.lt_of_lt_of_le hk hW.size)).trans (hW.block k hk)⟩
            have := hC w (fun x => Pd x.d d) #[.pointer (some ⟨g.blk vid, 0, none⟩)] b cap zs hpb (by rw [hzl]; simp only [LIM] at hlim; omega) hbl (fun j hj i v hi => by
              have h1 := els_get zs j i v hj hi
              rw [z2] at h1
              have hlt : j * cts.length + i < l.length * cts.length := by
                have h2 := k3.length
                rcases Nat.lt_or_ge (j * cts.length + i) vs.length with h' | h'
                · omega
                · simp [List.getElem?_eq_none h'] at h1
              rw [Nat.zero_add, World.ownsRow.cellAt (w := w) (g := b) (n := l.length) (cap := cap) (xs := vs) (base := 0) (e := und e') (size := cts.length) (by rw [← hv]; exact k2) _ hlt]
              exact h1)
            rw [hzl] at this
            refine Calls.mono this fun en w' hen => ?_
            obtain ⟨rfl, hb⟩ := hen
            exact fin _ zs w' rfl (fun z _ => rfl) hb
      · simp at hq
    · simp at hq
  · simp at hq
end
end Go.Proofs.QV

namespace Go.Proofs
open Go.Shelf
set_option maxRecDepth 100000
def Tryz.lidx_ren : Go.Shelf.Ren := ⟨fun | 6 => 62 | n => n, fun | 22 => 35 | 23 => 84 | 25 => 92 | 3 => 3 | 0 => 0 | 4 => 4 | n => n, fun | n => n⟩
theorem Tryz.lidx : Go.Proofs.SlLaysH0.n6 Tryz.prog Tryz.lidx_ren := {
  mixed := by kernel_rfl,
  f6 := ⟨"slices.IndexFunc[[]loop.example/g00964/impl.Def,loop.example/g00964/impl.Def]", by decide, Tryz.func62.trans (congrArg some (by kernel_rfl))⟩,
  t0 := Tryz.underlying0,
  a0 := Tryz.isAgg0,
  z0 := Tryz.sizeOf0,
  v0 := Tryz.zeroValue0,
  t3 := Tryz.underlying3,
  a3 := Tryz.isAgg3,
  z3 := Tryz.sizeOf3,
  v3 := Tryz.zeroValue3,
  t4 := Tryz.underlying4,
  a4 := Tryz.isAgg4,
  z4 := Tryz.sizeOf4,
  v4 := Tryz.zeroValue4,
  t22 := Tryz.underlying35,
  a22 := Tryz.isAgg35,
  z22 := Tryz.sizeOf35,
  v22 := Tryz.zeroValue35,
  t25 := Tryz.underlying92,
  a25 := Tryz.isAgg92,
  z25 := Tryz.sizeOf92,
  v25 := Tryz.zeroValue92 }
def Tryz.lany_ren : Go.Shelf.Ren := ⟨fun | 8 => 58 | 6 => 62 | n => n, fun | 22 => 35 | 23 => 84 | 25 => 92 | 4 => 4 | 3 => 3 | 0 => 0 | n => n, fun | n => n⟩
theorem Tryz.lany : Go.Proofs.SlLaysH0.n8 Tryz.prog Tryz.lany_ren := {
  mixed := by kernel_rfl,
  f6 := ⟨"slices.IndexFunc[[]loop.example/g00964/impl.Def,loop.example/g00964/impl.Def]", by decide, Tryz.func62.trans (congrArg some (by kernel_rfl))⟩,
  f8 := ⟨"slices.ContainsFunc[[]loop.example/g00964/impl.Def,loop.example/g00964/impl.Def]", by decide, Tryz.func58.trans (congrArg some (by kernel_rfl))⟩,
  t0 := Tryz.underlying0,
  a0 := Tryz.isAgg0,
  z0 := Tryz.sizeOf0,
  v0 := Tryz.zeroValue0,
  t3 := Tryz.underlying3,
  a3 := Tryz.isAgg3,
  z3 := Tryz.sizeOf3,
  v3 := Tryz.zeroValue3,
  t4 := Tryz.underlying4,
  a4 := Tryz.isAgg4,
  z4 := Tryz.sizeOf4,
  v4 := Tryz.zeroValue4,
  t22 := Tryz.underlying35,
  a22 := Tryz.isAgg35,
  z22 := Tryz.sizeOf35,
  v22 := Tryz.zeroValue35,
  t25 := Tryz.underlying92,
  a25 := Tryz.isAgg92,
  z25 := Tryz.sizeOf92,
  v25 := Tryz.zeroValue92 }
end Go.Proofs
namespace Go.Proofs.QV
open Go Go.RowKit Go.Lib
set_option linter.unusedVariables false
set_option linter.unusedSimpArgs false
noncomputable def fj60 : FI := mkFI Tryz.f60 2 [.ag [.i .i64, .b, .s, .s, .sl 9, .sl 32, .sl 123, .sl 145, .sl 109, .b, .sl 127], .ag [.i .i64, .b, .s, .s, .sl 9, .sl 32, .sl 123, .sl 145, .sl 109, .b, .sl 127]] [(false, [.ct .b])] (fun _ => (.s (.r [0, 1, 0] none) (.s (.s (.r [] (some ⟨ou :: ou :: .one (.ptr 0 0) :: .one (.ptr 1 0) :: uu 8 (ob :: uu 17 []), .var 84 [.i .i64, .b, .s, .s, .sl 9, .sl 32, .sl 123, .sl 145, .sl 109, .b, .sl 127] :: .var 84 [.i .i64, .b, .s, .s, .sl 9, .sl 32, .sl 123, .sl 145, .sl 109, .b, .sl 127] :: []⟩)) .n) (.s (.r [] (some ⟨uu 4 (ob :: uu 25 []), .u :: .u :: []⟩)) .n))))
noncomputable def fj85 : FI := mkFI Tryz.f85 1 [.ag [.i .i64, .b, .s, .s, .sl 9, .sl 32, .sl 123, .sl 145, .sl 109, .b, .sl 127]] [(false, [.ct .b])] (fun _ => (.s (.r [0, 0] none) (.s (.r [] (some ⟨ou :: ou :: ob :: uu 8 [], .u :: []⟩)) .n)))
noncomputable def fnJ : List (Nat × FI) := [(60, fj60), (85, fj85)]
noncomputable def cfgJ : Cfg := ⟨fun t => look t tyL, fun f => look f fnJ⟩
theorem fnsJ : ∀ x ∈ fnJ, FnOk Tryz.prog Glob.none cfgJ.ty x.1 x.2 :=
  all_cons (mkFI_ok Tryz.func60 (by kernel_rfl)) <|
  all_cons (mkFI_ok Tryz.func85 (by kernel_rfl)) <| all_nil
noncomputable def rj_alike (a : List DC) : Out := Run cfgJ 60 ⟨.agg [.i .i64, .b, .s, .s, .sl 9, .sl 32, .sl 123, .sl 145, .sl 109, .b, .sl 127] :: .agg [.i .i64, .b, .s, .s, .sl 9, .sl 32, .sl 123, .sl 145, .sl 109, .b, .sl 127] :: [], []⟩ a
noncomputable def rj_isType (a : List DC) : Out := Run cfgJ 85 ⟨.agg [.i .i64, .b, .s, .s, .sl 9, .sl 32, .sl 123, .sl 145, .sl 109, .b, .sl 127] :: [], []⟩ a
noncomputable def Ej_alike (a : List DC) : Out :=
 Out.andThen (if ((a.getD 0 d0).ii == (8 : Int)) = true then
 .norm [.b true, .i ((a.getD 0 d0).ii), .b ((a.getD 1 d0).bb), .s ((a.getD 2 d0).ss), .s ((a.getD 3 d0).ss), .sl ((a.getD 4 d0).ll), .sl ((a.getD 5 d0).ll), .sl ((a.getD 6 d0).ll), .sl ((a.getD 7 d0).ll), .sl ((a.getD 8 d0).ll), .b ((a.getD 9 d0).bb), .sl ((a.getD 10 d0).ll), .i ((a.getD 11 d0).ii), .b ((a.getD 12 d0).bb), .s ((a.getD 13 d0).ss), .s ((a.getD 14 d0).ss), .sl ((a.getD 15 d0).ll), .sl ((a.getD 16 d0).ll), .sl ((a.getD 17 d0).ll), .sl ((a.getD 18 d0).ll), .sl ((a.getD 19 d0).ll), .b ((a.getD 20 d0).bb), .sl ((a.getD 21 d0).ll)]
 else
 .norm [.b ((a.getD 11 d0).ii == (8 : Int)), .i ((a.getD 0 d0).ii), .b ((a.getD 1 d0).bb), .s ((a.getD 2 d0).ss), .s ((a.getD 3 d0).ss), .sl ((a.getD 4 d0).ll), .sl ((a.getD 5 d0).ll), .sl ((a.getD 6 d0).ll), .sl ((a.getD 7 d0).ll), .sl ((a.getD 8 d0).ll), .b ((a.getD 9 d0).bb), .sl ((a.getD 10 d0).ll), .i ((a.getD 11 d0).ii), .b ((a.getD 12 d0).bb), .s ((a.getD 13 d0).ss), .s ((a.getD 14 d0).ss), .sl ((a.getD 15 d0).ll), .sl ((a.getD 16 d0).ll), .sl ((a.getD 17 d0).ll), .sl ((a.getD 18 d0).ll), .sl ((a.getD 19 d0).ll), .b ((a.getD 20 d0).bb), .sl ((a.getD 21 d0).ll)]) fun v1 =>
 if (v1.getD 0 d0).bb = true then
 .ret [.b ((v1.getD 1 d0).ii == (v1.getD 12 d0).ii)]
 else
 Out.andThen ((rj_isType [.i ((v1.getD 1 d0).ii), .b ((v1.getD 2 d0).bb), .s ((v1.getD 3 d0).ss), .s ((v1.getD 4 d0).ss), .sl ((v1.getD 5 d0).ll), .sl ((v1.getD 6 d0).ll), .sl ((v1.getD 7 d0).ll), .sl ((v1.getD 8 d0).ll), .sl ((v1.getD 9 d0).ll), .b ((v1.getD 10 d0).bb), .sl ((v1.getD 11 d0).ll)]).bindR fun r2 =>
 (rj_isType [.i ((v1.getD 12 d0).ii), .b ((v1.getD 13 d0).bb), .s ((v1.getD 14 d0).ss), .s ((v1.getD 15 d0).ss), .sl ((v1.getD 16 d0).ll), .sl ((v1.getD 17 d0).ll), .sl ((v1.getD 18 d0).ll), .sl ((v1.getD 19 d0).ll), .sl ((v1.getD 20 d0).ll), .b ((v1.getD 21 d0).bb), .sl ((v1.getD 22 d0).ll)]).bindR fun r3 =>
 if ((r2.getD 0 d0).bb == (r3.getD 0 d0).bb) = true then
 .norm [.b ((v1.getD 4 d0).ss == (v1.getD 15 d0).ss)]
 else
 .norm [.b false]) fun v4 =>
 .ret [.b ((v4.getD 0 d0).bb)]
theorem eqj_alike (a : List DC) : rj_alike a = Ej_alike a := (Run_eq cfgJ 60 _ a).trans (by kernel_rfl)
noncomputable def Ej_isType (a : List DC) : Out :=
 Out.andThen (if ((a.getD 0 d0).ii != (7 : Int)) = true then
 .norm [.b ((a.getD 0 d0).ii != (8 : Int))]
 else
 .norm [.b false]) fun v1 =>
 .ret [.b ((v1.getD 0 d0).bb)]
theorem eqj_isType (a : List DC) : rj_isType a = Ej_isType a := (Run_eq cfgJ 85 _ a).trans (by kernel_rfl)
def ctD : List CT := [.i .i64, .b, .s, .s, .sl 9, .sl 32, .sl 123, .sl 145, .sl 109, .b, .sl 127]
def isTD (k : Int) : Bool := k != 7 && k != 8
def alkP (x d : List DC) : Bool :=
  if (x.getD 0 d0).ii = 8 ∨ (d.getD 0 d0).ii = 8 then (x.getD 0 d0).ii == (d.getD 0 d0).ii
  else (isTD (x.getD 0 d0).ii == isTD (d.getD 0 d0).ii) && ((x.getD 3 d0).ss == (d.getD 3 d0).ss)
theorem isT_eq (a : List DC) : rj_isType a = .ret [.b (isTD (a.getD 0 d0).ii)] := by
  rw [eqj_isType]
  unfold Ej_isType isTD
  generalize (a.getD 0 d0).ii = k
  by_cases h : k = 7
  · subst h; rfl
  · have e7 : (k != 7) = true := bne_iff_ne.2 h
    simp only [e7, if_true, Out.andThen_norm, List.getD_cons_zero, DC.bb_b, Bool.true_and]
theorem alk_eq (x d : List DC) (hx : x.length = 11) (hd : d.length = 11) : rj_alike (x ++ d) = .ret [.b (alkP x d)] := by
  match x, hx with
  | [x0, x1, x2, x3, x4, x5, x6, x7, x8, x9, x10], _ =>
  match d, hd with
  | [y0, y1, y2, y3, y4, y5, y6, y7, y8, y9, y10], _ =>
  rw [eqj_alike]
  unfold Ej_alike alkP
  simp only [List.cons_append, List.nil_append, List.getD_cons_zero, List.getD_cons_succ]
  generalize x0.ii = k
  generalize y0.ii = m
  generalize x3.ss = s
  generalize y3.ss = t
  by_cases h1 : k = 8
  · subst h1
    simp only [beq_self_eq_true, if_true, Out.andThen_norm, List.getD_cons_zero, List.getD_cons_succ, DC.bb_b, DC.ii_i, true_or]
  · have e1 : (k == 8) = false := beq_eq_false_iff_ne.2 h1
    by_cases h2 : m = 8
    · subst h2
      simp only [e1, beq_self_eq_true, if_true, Bool.false_eq_true, if_false, Out.andThen_norm, List.getD_cons_zero, List.getD_cons_succ, DC.bb_b, DC.ii_i, or_true]
    · have e2 : (m == 8) = false := beq_eq_false_iff_ne.2 h2
      simp only [e1, e2, Bool.false_eq_true, if_false, Out.andThen_norm, List.getD_cons_zero, List.getD_cons_succ, DC.bb_b, DC.ii_i, DC.ss_s, h1, h2, or_self, isT_eq, Out.bindR_ret]
      cases hq : (isTD k == isTD m) <;> simp only [Bool.false_eq_true, if_true, if_false, Out.andThen_norm, List.getD_cons_zero, DC.bb_b, Bool.true_and, Bool.false_and]
theorem us_i {ty : Nat → Option TI} {w : World} {k : IntKind} {ts : List CT} {x : List DC} {u : List Value} {F : List Nat} (h : RdL ty w (.i k :: ts) x u F) : ∃ n u' x' F', u = .int k n :: u' ∧ RdL ty w ts x' u' F' := by
  cases h with
  | cons _ _ d xs v vs F G h1 h2 => cases h1; exact ⟨_, _, _, _, rfl, h2⟩
theorem us_b {ty : Nat → Option TI} {w : World} {ts : List CT} {x : List DC} {u : List Value} {F : List Nat} (h : RdL ty w (.b :: ts) x u F) : ∃ n u' x' F', u = .bool n :: u' ∧ RdL ty w ts x' u' F' := by
  cases h with
  | cons _ _ d xs v vs F G h1 h2 => cases h1; exact ⟨_, _, _, _, rfl, h2⟩
theorem us_s {ty : Nat → Option TI} {w : World} {ts : List CT} {x : List DC} {u : List Value} {F : List Nat} (h : RdL ty w (.s :: ts) x u F) : ∃ n u' x' F', u = .string n :: u' ∧ RdL ty w ts x' u' F' := by
  cases h with
  | cons _ _ d xs v vs F G h1 h2 => cases h1; exact ⟨_, _, _, _, rfl, h2⟩
theorem us_l {ty : Nat → Option TI} {w : World} {e : Nat} {ts : List CT} {x : List DC} {u : List Value} {F : List Nat} (h : RdL ty w (.sl e :: ts) x u F) : ∃ a n c u' x' F', u = .slice a n c :: u' ∧ RdL ty w ts x' u' F' := by
  cases h with
  | cons _ _ d xs v vs F G h1 h2 => cases h1 <;> exact ⟨_, _, _, _, _, _, rfl, h2⟩
theorem us_n {ty : Nat → Option TI} {w : World} {x : List DC} {u : List Value} {F : List Nat} (h : RdL ty w [] x u F) : u = [] := by cases h; rfl
theorem us_def {ty : Nat → Option TI} {w : World} {x : List DC} {u : List Value} {F : List Nat} (h : RdL ty w ctD x u F) : ∃ k b s n a4 n4 c4 a5 n5 c5 a6 n6 c6 a7 n7 c7 a8 n8 c8 r a9 n9 c9,
    u = [.int .i64 k, .bool b, .string s, .string n, .slice a4 n4 c4, .slice a5 n5 c5, .slice a6 n6 c6, .slice a7 n7 c7, .slice a8 n8 c8, .bool r, .slice a9 n9 c9] := by
  obtain ⟨k, _, _, _, rfl, h0⟩ := us_i h
  obtain ⟨b, _, _, _, rfl, h1⟩ := us_b h0
  obtain ⟨s, _, _, _, rfl, h2⟩ := us_s h1
  obtain ⟨n, _, _, _, rfl, h3⟩ := us_s h2
  obtain ⟨a4, n4, c4, _, _, _, rfl, h4⟩ := us_l h3
  obtain ⟨a5, n5, c5, _, _, _, rfl, h5⟩ := us_l h4
  obtain ⟨a6, n6, c6, _, _, _, rfl, h6⟩ := us_l h5
  obtain ⟨a7, n7, c7, _, _, _, rfl, h7⟩ := us_l h6
  obtain ⟨a8, n8, c8, _, _, _, rfl, h8⟩ := us_l h7
  obtain ⟨r, _, _, _, rfl, h9⟩ := us_b h8
  obtain ⟨a9, n9, c9, _, _, _, rfl, h10⟩ := us_l h9
  rw [us_n h10]
  exact ⟨_, _, _, _, _, _, _, _, _, _, _, _, _, _, _, _, _, _, _, _, _, _, _, rfl⟩
theorem alk_calls {W : World} {x d : List DC} {u1 u2 : List Value} {F1 F2 : List Nat} (h1 : RdL cfgJ.ty W ctD x u1 F1) (h2 : RdL cfgJ.ty W ctD d u2 F2) (l1 : ∀ b ∈ F1, b < W.heap.size) (l2 : ∀ b ∈ F2, b < W.heap.size) :
    Calls Tryz.prog 60 #[.agg u1.toArray, .agg u2.toArray] W fun e w' => e = .returned (.bool (alkP x d)) ∧ RowKit.Below W.heap.size W w' :=
  bool2_calls (cfg := cfgJ) (G := Glob.none) (tyB_ok tys).1 (by kernel_rfl) (fn_ok fnsJ) (f := 60) (fi := fj60) (by kernel_rfl) ⟨trivial, fun _ h => h.elim⟩ (cts := ctD) rfl rfl h1 h2 l1 l2
    (Run.evt (alk_eq x d (RdL.length h1).2 (RdL.length h2).2))
set_option maxHeartbeats 4000000 in
theorem clos59 (W : World) (x d : List DC) (u1 u2 : List Value) (F1 F2 : List Nat) (B : Nat) (h1 : RdL cfgJ.ty W ctD x u1 F1) (h2 : RdL cfgJ.ty W ctD d u2 F2) (l1 : ∀ b ∈ F1, b < W.heap.size) (l2 : ∀ b ∈ F2, b < W.heap.size) (hB : W.heap[B]? = some (.cells u2.toArray 84 (0, 0))) :
    Calls Tryz.prog 59 (#[.agg u1.toArray] ++ #[.pointer (some ⟨B, 0, none⟩)]) W fun e w' => e = .returned (.bool (alkP x d)) ∧ RowKit.Below W.heap.size W w' := by
  have hcall : ∀ W', RowKit.Below W.heap.size W W' → Calls Tryz.prog 60 #[.agg u1.toArray, .agg u2.toArray] W' fun e w' => e = .returned (.bool (alkP x d)) ∧ RowKit.Below W'.heap.size W' w' := fun W' hb =>
    alk_calls (h1.frame fun b k => hb.block b (l1 b k)) (h2.frame fun b k => hb.block b (l2 b k)) (fun b k => Nat.lt_of_lt_of_le (l1 b k) hb.size) (fun b k => Nat.lt_of_lt_of_le (l2 b k) hb.size)
  obtain ⟨k, b, s, n, a4, n4, c4, a5, n5, c5, a6, n6, c6, a7, n7, c7, a8, n8, c8, r, a9, n9, c9, rfl⟩ := us_def h1
  obtain ⟨yk, yb, ys, yn, y4, m4, z4, y5, m5, z5, y6, m6, z6, y7, m7, z7, y8, m8, z8, yr, y9, m9, z9, rfl⟩ := us_def h2
  generalize alkP x d = res at hcall ⊢
  clear h1 h2 l1 l2
  have hBW : B < W.heap.size := block_lt hB
  have hne : B ≠ W.heap.size := by omega
  have q0 : W.cell? ⟨B, 0, none⟩ = some (.int .i64 yk) := by simp [World.cell?, hB]
  have q1 : W.cell? ⟨B, 1, none⟩ = some (.bool yb) := by simp [World.cell?, hB]
  have q2 : W.cell? ⟨B, 2, none⟩ = some (.string ys) := by simp [World.cell?, hB]
  have q3 : W.cell? ⟨B, 3, none⟩ = some (.string yn) := by simp [World.cell?, hB]
  have q4 : W.cell? ⟨B, 4, none⟩ = some (.slice y4 m4 z4) := by simp [World.cell?, hB]
  have q5 : W.cell? ⟨B, 5, none⟩ = some (.slice y5 m5 z5) := by simp [World.cell?, hB]
  have q6 : W.cell? ⟨B, 6, none⟩ = some (.slice y6 m6 z6) := by simp [World.cell?, hB]
  have q7 : W.cell? ⟨B, 7, none⟩ = some (.slice y7 m7 z7) := by simp [World.cell?, hB]
  have q8 : W.cell? ⟨B, 8, none⟩ = some (.slice y8 m8 z8) := by simp [World.cell?, hB]
  have q9 : W.cell? ⟨B, 9, none⟩ = some (.bool yr) := by simp [World.cell?, hB]
  have q10 : W.cell? ⟨B, 10, none⟩ = some (.slice y9 m9 z9) := by simp [World.cell?, hB]
  clear hB
  show Calls Tryz.prog 59 #[.agg #[_, _, _, _, _, _, _, _, _, _, _], .pointer (some ⟨B, 0, none⟩)] W _
  go_enter Tryz.func59, Tryz.ntmps59
  go_wp2_with (go_at_call 60; refine (hcall _ ((Below.refl _ W).alloc (Nat.le_refl _) _)).mono ?_; rintro e w' ⟨rfl, hb'⟩)
  go_ret
  exact ⟨rfl, ((Below.refl _ W).alloc (Nat.le_refl _) _).trans (hb'.mono (by simp))⟩
set_option maxHeartbeats 4000000 in
theorem clos63 (W : World) (x d : List DC) (u1 u2 : List Value) (F1 F2 : List Nat) (B : Nat) (h1 : RdL cfgJ.ty W ctD x u1 F1) (h2 : RdL cfgJ.ty W ctD d u2 F2) (l1 : ∀ b ∈ F1, b < W.heap.size) (l2 : ∀ b ∈ F2, b < W.heap.size) (hB : W.heap[B]? = some (.cells u2.toArray 84 (0, 0))) :
    Calls Tryz.prog 63 (#[.agg u1.toArray] ++ #[.pointer (some ⟨B, 0, none⟩)]) W fun e w' => e = .returned (.bool (alkP x d)) ∧ RowKit.Below W.heap.size W w' := by
  have hcall : ∀ W', RowKit.Below W.heap.size W W' → Calls Tryz.prog 60 #[.agg u1.toArray, .agg u2.toArray] W' fun e w' => e = .returned (.bool (alkP x d)) ∧ RowKit.Below W'.heap.size W' w' := fun W' hb =>
    alk_calls (h1.frame fun b k => hb.block b (l1 b k)) (h2.frame fun b k => hb.block b (l2 b k)) (fun b k => Nat.lt_of_lt_of_le (l1 b k) hb.size) (fun b k => Nat.lt_of_lt_of_le (l2 b k) hb.size)
  obtain ⟨k, b, s, n, a4, n4, c4, a5, n5, c5, a6, n6, c6, a7, n7, c7, a8, n8, c8, r, a9, n9, c9, rfl⟩ := us_def h1
  obtain ⟨yk, yb, ys, yn, y4, m4, z4, y5, m5, z5, y6, m6, z6, y7, m7, z7, y8, m8, z8, yr, y9, m9, z9, rfl⟩ := us_def h2
  generalize alkP x d = res at hcall ⊢
  clear h1 h2 l1 l2
  have hBW : B < W.heap.size := block_lt hB
  have hne : B ≠ W.heap.size := by omega
  have q0 : W.cell? ⟨B, 0, none⟩ = some (.int .i64 yk) := by simp [World.cell?, hB]
  have q1 : W.cell? ⟨B, 1, none⟩ = some (.bool yb) := by simp [World.cell?, hB]
  have q2 : W.cell? ⟨B, 2, none⟩ = some (.string ys) := by simp [World.cell?, hB]
  have q3 : W.cell? ⟨B, 3, none⟩ = some (.string yn) := by simp [World.cell?, hB]
  have q4 : W.cell? ⟨B, 4, none⟩ = some (.slice y4 m4 z4) := by simp [World.cell?, hB]
  have q5 : W.cell? ⟨B, 5, none⟩ = some (.slice y5 m5 z5) := by simp [World.cell?, hB]
  have q6 : W.cell? ⟨B, 6, none⟩ = some (.slice y6 m6 z6) := by simp [World.cell?, hB]
  have q7 : W.cell? ⟨B, 7, none⟩ = some (.slice y7 m7 z7) := by simp [World.cell?, hB]
  have q8 : W.cell? ⟨B, 8, none⟩ = some (.slice y8 m8 z8) := by simp [World.cell?, hB]
  have q9 : W.cell? ⟨B, 9, none⟩ = some (.bool yr) := by simp [World.cell?, hB]
  have q10 : W.cell? ⟨B, 10, none⟩ = some (.slice y9 m9 z9) := by simp [World.cell?, hB]
  clear hB
  show Calls Tryz.prog 63 #[.agg #[_, _, _, _, _, _, _, _, _, _, _], .pointer (some ⟨B, 0, none⟩)] W _
  go_enter Tryz.func63, Tryz.ntmps63
  go_wp2_with (go_at_call 60; refine (hcall _ ((Below.refl _ W).alloc (Nat.le_refl _) _)).mono ?_; rintro e w' ⟨rfl, hb'⟩)
  go_ret
  exact ⟨rfl, ((Below.refl _ W).alloc (Nat.le_refl _) _).trans (hb'.mono (by simp))⟩
set_option maxHeartbeats 1000000 in
theorem idx_nil {P : Program} {ρ : Go.Shelf.Ren} (L : SlLaysH0.n6 P ρ) (a : Option Addr) (c : Nat) (fv : Value) (w : World) :
    Calls P (ρ.f 6) #[.slice a 0 c, fv] w fun e w' => e = .returned (.int .i64 (-1)) ∧ w' = w := by
  have mixed := L.mixed; have t0 := L.t0; have a0 := L.a0; have z0 := L.z0; have v0 := L.v0; have t3 := L.t3; have a3 := L.a3; have z3 := L.z3; have v3 := L.v3; have t4 := L.t4; have a4 := L.a4; have z4 := L.z4; have v4 := L.v4; have t22 := L.t22; have a22 := L.a22; have z22 := L.z22; have v22 := L.v22; have t25 := L.t25; have a25 := L.a25; have z25 := L.z25; have v25 := L.v25
  obtain ⟨_, _, FG⟩ := L.f6
  go_enter FG, SlBodyH.n6_ntmps ρ
  go_wp2
  go_loopg [5, 8] 0 (fun _ _ s8 wr => s8 = .int .i64 0 ∧ wr = w)
  case atStart => exact ⟨rfl, rfl⟩
  case round =>
    obtain ⟨rfl, rfl⟩ := hrel
    go_wp2
    go_ret
    exact ⟨rfl, rfl⟩
theorem any_nil {P : Program} {ρ : Go.Shelf.Ren} (L : SlLaysH0.n8 P ρ) (a : Option Addr) (c : Nat) (fv : Value) (w : World) :
    Calls P (ρ.f 8) #[.slice a 0 c, fv] w fun e w' => e = .returned (.bool false) ∧ w' = w := by
  have mixed := L.mixed; have t0 := L.t0; have a0 := L.a0; have z0 := L.z0; have v0 := L.v0; have t3 := L.t3; have a3 := L.a3; have z3 := L.z3; have v3 := L.v3; have t4 := L.t4; have a4 := L.a4; have z4 := L.z4; have v4 := L.v4; have t22 := L.t22; have a22 := L.a22; have z22 := L.z22; have v22 := L.v22; have t25 := L.t25; have a25 := L.a25; have z25 := L.z25; have v25 := L.v25
  have e6 : ∀ args w, (callFunc (ρ.f 6) args).run P w = .ok (.enter (ρ.f 6) args) w := L.f6.enters rfl
  obtain ⟨_, _, FG⟩ := L.f8
  go_enter FG, SlBodyH.n8_ntmps ρ
  go_wp2_with (go_at_fn (ρ.f 6); refine (idx_nil { L with } a c fv _).mono ?_; rintro e w' ⟨rfl, rfl⟩)
  go_ret
  exact ⟨rfl, rfl⟩
theorem any_eqD {ty : Nat → Option TI} {w : World} {cts : List CT} {p : El ty w cts → Bool} {q : List DC → Bool} : ∀ {zs : List (El ty w cts)}, (∀ z ∈ zs, p z = q z.d) → zs.any p = (zs.map El.d).any q
  | [], _ => rfl
  | z :: zs, h => by
    rw [List.any_cons, List.map_cons, List.any_cons, h z (by simp), any_eqD fun y hy => h y (by simp [hy])]
theorem idx_eqF {ty : Nat → Option TI} {w : World} {cts : List CT} {p : El ty w cts → Bool} {q : List DC → Bool} {x : El ty w cts} : ∀ {zs : List (El ty w cts)} {i : Nat}, (∀ z ∈ zs, p z = q z.d) →
    Lib.idxByFrom (fun _ y => p y) x zs i = match (zs.map El.d).findIdx? q with | some j => ((i + j : Nat) : Int) | none => -1
  | [], i, _ => rfl
  | z :: zs, i, h => by
    rw [Lib.idxByFrom, List.map_cons, List.findIdx?_cons, h z (by simp)]
    cases hq : q z.d with
    | true => simp
    | false =>
      simp only [Bool.false_eq_true, if_false]
      rw [idx_eqF fun y hy => h y (by simp [hy])]
      cases (zs.map El.d).findIdx? q with
      | none => rfl
      | some j => simp only [Option.map_some]; congr 1; omega
theorem idx_eqD {ty : Nat → Option TI} {w : World} {cts : List CT} {p : El ty w cts → Bool} {q : List DC → Bool} {x : El ty w cts} {zs : List (El ty w cts)} (h : ∀ z ∈ zs, p z = q z.d) :
    Lib.idxBy (fun _ y => p y) zs x = idxP q (zs.map El.d) := by
  unfold Lib.idxBy idxP
  rw [idx_eqF h]
  cases (zs.map El.d).findIdx? q <;> simp
theorem hte84 : ∀ te, look 84 tyL = some te → te.cts = ctD := fun te h => by
  injection (show look 84 tyL = some te from h) with h
  subst h
  rfl
theorem stAny : StOK Tryz.prog Glob.none (fun t => look t tyL) 58 (qFnd rAny 84 59 ctD alkP) :=
  fnd_ok (V := fun cts w p zs => .bool (zs.any p)) (by kernel_rfl) hte84 rfl
    (fun w p lb b c zs hp hbig hb hc => by
      have := AnyQ.slices_ContainsFunc Tryz.lany ctD.length Tryz.isAgg84 Tryz.sizeOf84 El.v (fun x => (RdL.length x.rd).1) p 59 lb (enters_of Tryz.func59 (by kernel_rfl) rfl) b 0 zs.length c zs w hp (Nat.le_refl _) hbig hb hc
      rw [List.take_length] at this
      exact this)
    (fun fv w => any_nil Tryz.lany none 0 fv w)
    (fun w p q zs h {g H w'} => by
      show SR (fun t => look t tyL) g H w' (.bool ((zs.map El.d).any q)) (.bool (zs.any p))
      rw [any_eqD h]
      rfl)
    (fun W x d u1 u2 F1 F2 B h1 h2 l1 l2 hB => clos59 W x d u1 u2 F1 F2 B h1 h2 l1 l2 hB)
theorem stIdx : StOK Tryz.prog Glob.none (fun t => look t tyL) 62 (qFnd rIdx 84 63 ctD alkP) :=
  fnd_ok (V := fun cts w p zs => .int .i64 (Lib.idxBy (fun _ y => p y) zs default)) (by kernel_rfl) hte84 rfl
    (fun w p lb b c zs hp hbig hb hc => by
      have := AnyQ.slices_IndexFunc Tryz.lidx ctD.length Tryz.isAgg84 Tryz.sizeOf84 El.v (fun x => (RdL.length x.rd).1) p 63 lb (enters_of Tryz.func63 (by kernel_rfl) rfl) b 0 zs.length c zs w hp (Nat.le_refl _) hbig hb hc
      rw [List.take_length] at this
      exact this)
    (fun fv w => idx_nil Tryz.lidx none 0 fv w)
    (fun w p q zs h {g H w'} => by
      show SR (fun t => look t tyL) g H w' (.int .i64 (idxP q (zs.map El.d))) (.int .i64 (Lib.idxBy (fun _ y => p y) zs default))
      rw [idx_eqD h]
      rfl)
    (fun W x d u1 u2 F1 F2 B h1 h2 l1 l2 hB => clos63 W x d u1 u2 F1 F2 B h1 h2 l1 l2 hB)
noncomputable def h_slices_Clone_string : Hint := ⟨ol 9 :: [], []⟩
noncomputable def h_slices_Clone_impl_Root : Hint := ⟨ol 109 :: [], []⟩
noncomputable def fi4 : FI := mkFI Tryz.f4 21 [.ct (.sl 79)] [(false, [.ct .b])] (fun _ => (.s .n (.s .n (.s .n (.s .n (.s (.r [0, 0, 1, 0, 0, 0, 0, 0] none) (.s (.r [0, 3, 0] none) (.s (.r [0, 4, 0, 0, 0, 0, 0] none) (.s (.s (.r [] (some ⟨ol 79 :: uu 3 (.one (.own 1084 6) :: .one (.own 81 7) :: .one (.own 1084 8) :: .one (.own 1084 9) :: .one (.own 81 10) :: uu 32 (ob :: uu 70 [])), vv 21 []⟩)) .n) (.s (.s (.r [0, 0, 11, 0, 0] none) .n) (.s .n (.s .n (.s (.s (.r [] (some ⟨ol 79 :: uu 3 (.one (.own 1084 12) :: .one (.own 81 13) :: ou :: .one (.own 1084 14) :: .one (.own 81 15) :: uu 54 (ob :: uu 48 [])), vv 21 []⟩)) .n) (.s .n (.s .n (.s .n (.s .n (.s .n (.s .n (.s .n (.s .n (.s .n (.s (.r [0, 16, 17, 0, 0, 0, 0, 0] none) (.s (.s (.r [] (some ⟨uu 7 (.one (.own 1084 19) :: .one (.own 81 20) :: ou :: oi :: uu 87 (ob :: uu 13 [])), vv 21 []⟩)) .n) .n))))))))))))))))))))))))
noncomputable def fi17 : FI := mkFI Tryz.f17 0 [.ct (.sl 79), .ct (.i .i64)] [(false, [.ct (.i .i64)])] (fun _ => (.s .n (.s .n (.s .n (.s (.s .n (.b (.b (.s .n (.s (.b .n ⟨ol 79 :: oi :: uu 3 (oi :: uu 21 []), []⟩) .n)) ⟨ol 79 :: oi :: uu 3 (oi :: uu 21 []), []⟩) ⟨ou :: oi :: uu 25 [], []⟩)) .n)))))
noncomputable def fi19 : FI := mkFI Tryz.f19 11 [.ct (.sl 79)] [(false, [.new 1084])] (fun _ => (.s .n (.s (.r [0, 0, 1, 0] none) (.s (.s .n (.b (.b (.s .n (.s (.b (.r [0, 0, 0, 0, 0, 0, 3, 0, 0] none) ⟨ol 79 :: ou :: ou :: .one (.own 1084 9) :: oi :: uu 18 [], vv 11 []⟩) .n)) ⟨ol 79 :: ou :: ou :: .one (.own 1084 2) :: oi :: uu 18 [], vv 11 []⟩) ⟨uu 3 (.one (.own 1084 10) :: uu 19 []), vv 11 []⟩)) .n))))
noncomputable def fi18 : FI := mkFI Tryz.f18 78 [.ct (.sl 84)] [(false, [.new 1084]), (false, [.new 81])] (fun _ => (.s .n (.s (.r [1, 0] none) (.s (.r [2, 0] none) (.s (.s .n (.c (.s (.r [0, 0, 0, 4, 5, 0, 0] none) .n) .n none)) (.s (.s .n (.b (.b (.s .n (.s (.b (.s (.r [0, 0, 0, 8, 14, 0] none) (.s .n (.s (.s .n (.c (.s (.r [0, 0, 0, 0, 16, 17, 0] none) .n) .n none)) (.r [0, 18, 24, 31, 32, 0] none)))) ⟨ol 84 :: uu 3 (.one (.own 1084 33) :: .one (.own 81 34) :: oi :: uu 100 []), vv 78 []⟩) .n)) ⟨ol 84 :: uu 3 (.one (.own 1084 6) :: .one (.own 81 7) :: oi :: uu 100 []), vv 78 []⟩) ⟨ol 84 :: uu 3 (.one (.own 1084 35) :: .one (.own 81 36) :: uu 101 []), vv 78 []⟩)) (.s (.s .n (.b (.b (.s .n (.s (.b (.s (.r [0, 0, 0, 39, 45, 0] none) (.s .n (.s .n (.b (.s .n (.c (.r [0, 0, 0, 0, 46, 47, 0] none) (.s .n (.c (.r [0, 0, 0, 0, 48, 49, 0] none) (.r [0, 0, 0, 0, 0, 50, 56, 62, 0, 0] none) (some ⟨ol 84 :: uu 3 (.one (.own 1084 68) :: .one (.own 81 69) :: ou :: ou :: oi :: uu 98 []), vv 78 []⟩))) (some ⟨ol 84 :: uu 3 (.one (.own 1084 70) :: .one (.own 81 71) :: ou :: ou :: oi :: uu 98 []), vv 78 []⟩))) ⟨ol 84 :: uu 3 (.one (.own 1084 72) :: .one (.own 81 73) :: ou :: ou :: oi :: uu 98 []), vv 78 []⟩)))) ⟨ol 84 :: uu 3 (.one (.own 1084 74) :: .one (.own 81 75) :: ou :: ou :: oi :: uu 98 []), vv 78 []⟩) .n)) ⟨ol 84 :: uu 3 (.one (.own 1084 37) :: .one (.own 81 38) :: ou :: ou :: oi :: uu 98 []), vv 78 []⟩) ⟨uu 4 (.one (.own 1084 76) :: .one (.own 81 77) :: uu 101 []), vv 78 []⟩)) .n)))))))
noncomputable def fi20 : FI := mkFI Tryz.f20 80 [.ct (.sl 84)] [(false, [.new 1084]), (false, [.new 81])] (fun _ => (.s .n (.s (.s .n (.c (.s (.r [0, 0, 0, 0] none) .n) .n none)) (.s (.r [1, 0] none) (.s (.r [2, 0] none) (.s (.s .n (.b (.b (.s .n (.s .n (.s (.b (.s (.r [0, 5, 11, 0] none) (.b (.s .n (.c .n (.s .n (.c (.r [0, 0, 0, 0, 12, 13, 0] none) (.r [0, 14, 20, 27, 28, 0] none) (some ⟨ol 84 :: uu 3 (.one (.own 1084 29) :: .one (.own 81 30) :: uu 12 (ol 84 :: oi :: oi :: uu 70 [])), vv 80 []⟩))) (some ⟨ol 84 :: uu 3 (.one (.own 1084 31) :: .one (.own 81 32) :: uu 12 (ol 84 :: oi :: oi :: uu 70 [])), vv 80 []⟩))) ⟨ol 84 :: uu 3 (.one (.own 1084 33) :: .one (.own 81 34) :: uu 12 (ol 84 :: oi :: oi :: uu 70 [])), vv 80 []⟩)) ⟨ol 84 :: uu 3 (.one (.own 1084 35) :: .one (.own 81 36) :: uu 12 (ol 84 :: oi :: oi :: uu 70 [])), vv 80 []⟩) .n))) ⟨ol 84 :: uu 3 (.one (.own 1084 3) :: .one (.own 81 4) :: uu 12 (ol 84 :: oi :: oi :: uu 70 [])), vv 80 []⟩) ⟨ol 84 :: uu 3 (.one (.own 1084 37) :: .one (.own 81 38) :: uu 85 []), vv 80 []⟩)) (.s (.s .n (.b (.b (.s .n (.s .n (.s (.b (.s (.r [0, 41, 47, 0] none) (.s .n (.s .n (.b (.s .n (.c (.r [0, 0, 0, 0, 48, 49, 0] none) (.s .n (.c (.r [0, 0, 0, 0, 50, 51, 0] none) (.r [0, 0, 0, 0, 0, 52, 58, 64, 0, 0] none) (some ⟨uu 4 (.one (.own 1084 70) :: .one (.own 81 71) :: uu 37 (ol 84 :: oi :: oi :: uu 45 [])), vv 80 []⟩))) (some ⟨uu 4 (.one (.own 1084 72) :: .one (.own 81 73) :: uu 37 (ol 84 :: oi :: oi :: uu 45 [])), vv 80 []⟩))) ⟨uu 4 (.one (.own 1084 74) :: .one (.own 81 75) :: uu 37 (ol 84 :: oi :: oi :: uu 45 [])), vv 80 []⟩)))) ⟨uu 4 (.one (.own 1084 76) :: .one (.own 81 77) :: uu 37 (ol 84 :: oi :: oi :: uu 45 [])), vv 80 []⟩) .n))) ⟨uu 4 (.one (.own 1084 39) :: .one (.own 81 40) :: uu 37 (ol 84 :: oi :: oi :: uu 45 [])), vv 80 []⟩) ⟨uu 4 (.one (.own 1084 78) :: .one (.own 81 79) :: uu 85 []), vv 80 []⟩)) .n)))))))
noncomputable def fi21 : FI := mkFI Tryz.f21 0 [.ct (.sl 84), .ct (.sl 84)] [(false, [.ct .b])] (fun _ => (.s .n (.s .n (.s (.s .n (.b (.b (.s .n (.s (.b .n ⟨ol 84 :: ol 84 :: uu 3 (oi :: uu 21 []), []⟩) .n)) ⟨ol 84 :: ol 84 :: uu 3 (oi :: uu 21 []), []⟩) ⟨uu 27 [], []⟩)) .n))))
noncomputable def fi22 : FI := mkFI Tryz.f22 0 [.ct (.sl 81), .ct (.sl 81)] [(false, [.ct .b])] (fun _ => (.s .n (.s .n (.s (.s .n (.b (.b (.s .n (.s (.b .n ⟨ol 81 :: ol 81 :: uu 3 (oi :: uu 21 []), []⟩) .n)) ⟨ol 81 :: ol 81 :: uu 3 (oi :: uu 21 []), []⟩) ⟨uu 27 [], []⟩)) .n))))
noncomputable def fi25 : FI := mkFI Tryz.f25 0 [.ct (.sl 84), .ct (.i .i64)] [(false, [.ct (.i .i64)])] (fun _ => (.s .n (.s (.s .n (.b (.b (.s .n (.s (.b .n ⟨ol 84 :: oi :: uu 3 (oi :: uu 112 []), []⟩) .n)) ⟨ol 84 :: oi :: uu 3 (oi :: uu 112 []), []⟩) ⟨ou :: oi :: uu 116 [], []⟩)) .n)))
noncomputable def fi26 : FI := mkFI Tryz.f26 0 [.ct (.sl 81), .ct (.i .i64)] [(false, [.ct (.i .i64)])] (fun _ => (.s .n (.s (.s .n (.b (.b (.s .n (.s (.b .n ⟨ol 81 :: oi :: uu 3 (oi :: uu 36 []), []⟩) .n)) ⟨ol 81 :: oi :: uu 3 (oi :: uu 36 []), []⟩) ⟨ou :: oi :: uu 40 [], []⟩)) .n)))
noncomputable def fi52 : FI := mkFI Tryz.f52 1 [.ag [.i .i64, .b, .s, .s, .sl 9, .sl 164, .sl 170, .sl 173, .sl 112, .b, .sl 177], .ct (.i .i64)] [(false, [.ct (.i .i64)])] (fun _ => (.s (.r [0, 0] none) .n))
noncomputable def fi57 : FI := mkFI Tryz.f57 9 [.ag [.i .i64, .b, .s, .s, .sl 9, .sl 164, .sl 170, .sl 173, .sl 112, .b, .sl 177]] [(true, [.ct (.i .i64), .ct .b, .ct .s, .ct .s, .new 9, .new 1032, .new 1123, .new 1145, .new 109, .ct .b, .new 1127])] (fun _ => (.s (.r [0, 1] none) (.s (.r [2] none) (.s .n (.s .n (.s .n (.s .n (.s (.r [0, 0, 3, 0, 0] none) (.s (.r [0, 0, 4, 0, 0] none) (.s (.r [0, 0, 5, 0, 0] none) (.s (.r [0, 0, 6, 0, 0] none) (.s (.r [0, 0, 7, 0, 0] none) (.s .n (.s (.r [0, 0, 8, 0, 0] none) .n))))))))))))))
noncomputable def fi54 : FI := mkFI Tryz.f54 0 [.ct (.i .i64)] [(false, [.ct (.i .i64)])] (fun _ => (.s .n (.s (.s .n (.b .n ⟨uu 8 [], []⟩)) .n)))
noncomputable def fi53 : FI := mkFI Tryz.f53 0 [.ct (.sl 84), .ct (.i .i64), .ct .s] [(false, [.ct (.i .i64)])] (fun _ => (.s .n (.s (.s .n (.b (.b (.s .n (.s (.b (.s (.r [] (some ⟨ol 84 :: oi :: os :: uu 4 (oi :: uu 26 (ob :: ou :: [])), []⟩)) .n) ⟨ol 84 :: oi :: os :: uu 4 (oi :: uu 28 []), []⟩) .n)) ⟨ol 84 :: oi :: os :: uu 4 (oi :: uu 28 []), []⟩) ⟨uu 36 [], []⟩)) .n)))
noncomputable def fi55 : FI := mkFI Tryz.f55 11 [.ag [.i .i64, .b, .s, .s, .sl 9, .sl 32, .sl 123, .sl 145, .sl 109, .b, .sl 127]] [(true, [.ct (.i .i64), .ct .b, .ct .s, .ct .s, .new 9, .new 1032, .new 1123, .new 1145, .new 109, .ct .b, .new 1127])] (fun _ => (.s (.r [0, 1] none) (.s (.r [2, 0, 0, 3, 0, 0] none) (.s (.r [0, 0, 4, 0, 0] none) (.s (.r [0, 0, 5, 0, 0] none) (.s (.r [0, 0, 6, 0, 0] none) (.s (.r [8, 0, 0, 9, 0, 0] none) (.s (.r [0, 0, 10, 0, 0] none) .n))))))))
noncomputable def fi56 : FI := mkFI Tryz.f56 23 [.ag [.i .i64, .b, .s, .s, .sl 9, .sl 32, .sl 123, .sl 145, .sl 109, .b, .sl 127], .ag [.i .i64, .b, .s, .s, .sl 9, .sl 32, .sl 123, .sl 145, .sl 109, .b, .sl 127]] [(true, [.ct (.i .i64), .ct .b, .ct .s, .ct .s, .new 9, .new 1032, .new 1123, .new 1145, .new 109, .ct .b, .new 1127])] (fun _ => (.s (.r [0, 1, 2] none) (.s (.r [0, 3, 9, 0] none) (.s (.r [0, 10, 16, 0] none) (.s (.r [0, 0, 0, 0, 17, 0, 0] none) (.s (.r [0, 0, 0, 0, 18, 0, 0] none) (.s (.r [0, 0, 0, 0, 19, 0, 0] none) (.s (.r [0, 0, 0, 0, 20, 0, 0] none) (.s (.r [0, 0, 0, 0, 21, 0, 0] none) (.s (.r [0, 0, 0, 0, 22, 0, 0] none) .n))))))))))
noncomputable def fi61 : FI := mkFI Tryz.f61 8 [.ag [.i .i64, .b, .s, .s, .sl 9, .sl 32, .sl 123, .sl 145, .sl 109, .b, .sl 127]] [(true, [.ct (.i .i64), .ct .b, .ct .s, .ct .s, .new 9, .new 1032, .new 1123, .new 1145, .new 109, .ct .b, .new 1127])] (fun _ => (.s (.r [0, 1] none) (.s (.r [0, 0, 2, 0, 0] none) (.s (.r [0, 0, 3, 0, 0] none) (.s (.r [0, 0, 4, 0, 0] none) (.s (.r [0, 0, 5, 0, 0] none) (.s (.r [0, 0, 6, 0, 0] none) (.s (.r [0, 0, 7, 0, 0] none) .n))))))))
noncomputable def fi64 : FI := mkFI Tryz.f64 23 [.ag [.i .i64, .b, .s, .s, .sl 9, .sl 32, .sl 123, .sl 145, .sl 109, .b, .sl 127], .ag [.i .i64, .b, .s, .s, .sl 9, .sl 32, .sl 123, .sl 145, .sl 109, .b, .sl 127]] [(true, [.ct (.i .i64), .ct .b, .ct .s, .ct .s, .new 9, .new 1032, .new 1123, .new 1145, .new 109, .ct .b, .new 1127])] (fun _ => (.s (.r [0, 1, 2] none) (.s (.r [0, 3, 9, 0] none) (.s (.r [0, 10, 16, 0] none) (.s (.r [0, 0, 0, 0, 17, 0, 0] none) (.s (.r [0, 0, 0, 0, 18, 0, 0] none) (.s (.r [0, 0, 0, 0, 19, 0, 0] none) (.s (.r [0, 0, 0, 0, 20, 0, 0] none) (.s (.r [0, 0, 0, 0, 21, 0, 0] none) (.s (.r [0, 0, 0, 0, 22, 0, 0] none) .n))))))))))
noncomputable def fi65 : FI := mkFI Tryz.f65 2 [.ag [.i .i64, .b, .s, .s, .sl 9, .sl 32, .sl 123, .sl 145, .sl 109, .b, .sl 127], .ag [.i .i64, .b, .s, .s, .sl 9, .sl 32, .sl 123, .sl 145, .sl 109, .b, .sl 127]] [(false, [.ct .b])] (fun _ => (.s (.r [0, 1, 0] none) .n))
noncomputable def fi66 : FI := mkFI Tryz.f66 2 [.ag [.i .i64, .s, .s], .ag [.i .i64, .s, .s]] [(false, [.ct .b])] (fun _ => (.s (.r [0, 1, 0] none) .n))
noncomputable def fi31 : FI := mkFI Tryz.f31 0 [.ct (.sl 9), .ct (.i .i64)] [(false, [.ct (.i .i64)])] (fun _ => (.s .n (.s (.s .n (.b (.b (.s .n (.s (.b .n ⟨ol 9 :: oi :: uu 3 (oi :: uu 16 []), []⟩) .n)) ⟨ol 9 :: oi :: uu 3 (oi :: uu 16 []), []⟩) ⟨ou :: oi :: uu 20 [], []⟩)) .n)))
noncomputable def fi70 : FI := mkFI Tryz.f70 0 [.ct (.sl 32), .ct (.i .i64)] [(false, [.ct (.i .i64)])] (fun _ => (.s .n (.s (.s .n (.b (.b (.s .n (.s (.b .n ⟨ol 32 :: oi :: uu 3 (oi :: uu 67 []), []⟩) .n)) ⟨ol 32 :: oi :: uu 3 (oi :: uu 67 []), []⟩) ⟨ou :: oi :: uu 71 [], []⟩)) .n)))
noncomputable def fi50 : FI := mkFI Tryz.f50 0 [.ct (.sl 123), .ct (.i .i64)] [(false, [.ct (.i .i64)])] (fun _ => (.s .n (.s (.s .n (.b (.b (.s .n (.s (.b .n ⟨ol 123 :: oi :: uu 3 (oi :: uu 110 []), []⟩) .n)) ⟨ol 123 :: oi :: uu 3 (oi :: uu 110 []), []⟩) ⟨ou :: oi :: uu 114 [], []⟩)) .n)))
noncomputable def fi71 : FI := mkFI Tryz.f71 0 [.ct (.sl 145), .ct (.i .i64)] [(false, [.ct (.i .i64)])] (fun _ => (.s .n (.s (.s .n (.b (.b (.s .n (.s (.b .n ⟨ol 145 :: oi :: uu 3 (oi :: uu 36 []), []⟩) .n)) ⟨ol 145 :: oi :: uu 3 (oi :: uu 36 []), []⟩) ⟨ou :: oi :: uu 40 [], []⟩)) .n)))
noncomputable def fi72 : FI := mkFI Tryz.f72 0 [.ct (.sl 109), .ct (.i .i64)] [(false, [.ct (.i .i64)])] (fun _ => (.s .n (.s (.s .n (.b (.b (.s .n (.s (.b .n ⟨ol 109 :: oi :: uu 3 (oi :: uu 26 []), []⟩) .n)) ⟨ol 109 :: oi :: uu 3 (oi :: uu 26 []), []⟩) ⟨ou :: oi :: uu 30 [], []⟩)) .n)))
noncomputable def fi51 : FI := mkFI Tryz.f51 0 [.ct (.sl 127), .ct (.i .i64)] [(false, [.ct (.i .i64)])] (fun _ => (.s .n (.s (.s .n (.b (.b (.s .n (.s (.b .n ⟨ol 127 :: oi :: uu 3 (oi :: uu 26 []), []⟩) .n)) ⟨ol 127 :: oi :: uu 3 (oi :: uu 26 []), []⟩) ⟨ou :: oi :: uu 30 [], []⟩)) .n)))
noncomputable def fi103 : FI := mkFI Tryz.f103 0 [.ct (.sl 9), .ct (.i .i64)] [(false, [.ct (.i .i64)])] (fun _ => (.s .n (.s .n (.s .n (.s (.s .n (.b (.b (.s .n (.s (.b .n ⟨ol 9 :: oi :: uu 3 (oi :: uu 22 []), []⟩) .n)) ⟨ol 9 :: oi :: uu 3 (oi :: uu 22 []), []⟩) ⟨ou :: oi :: uu 26 [], []⟩)) .n)))))
noncomputable def fi104 : FI := mkFI Tryz.f104 0 [.ct (.sl 164), .ct (.i .i64)] [(false, [.ct (.i .i64)])] (fun _ => (.s .n (.s .n (.s .n (.s (.s .n (.b (.b (.s .n (.s (.b .n ⟨ol 164 :: oi :: uu 3 (oi :: uu 21 []), []⟩) .n)) ⟨ol 164 :: oi :: uu 3 (oi :: uu 21 []), []⟩) ⟨ou :: oi :: uu 25 [], []⟩)) .n)))))
noncomputable def fi105 : FI := mkFI Tryz.f105 0 [.ct (.sl 170), .ct (.i .i64)] [(false, [.ct (.i .i64)])] (fun _ => (.s .n (.s .n (.s .n (.s (.s .n (.b (.b (.s .n (.s (.b .n ⟨ol 170 :: oi :: uu 3 (oi :: uu 21 []), []⟩) .n)) ⟨ol 170 :: oi :: uu 3 (oi :: uu 21 []), []⟩) ⟨ou :: oi :: uu 25 [], []⟩)) .n)))))
noncomputable def fi106 : FI := mkFI Tryz.f106 0 [.ct (.sl 173), .ct (.i .i64)] [(false, [.ct (.i .i64)])] (fun _ => (.s .n (.s .n (.s .n (.s (.s .n (.b (.b (.s .n (.s (.b .n ⟨ol 173 :: oi :: uu 3 (oi :: uu 21 []), []⟩) .n)) ⟨ol 173 :: oi :: uu 3 (oi :: uu 21 []), []⟩) ⟨ou :: oi :: uu 25 [], []⟩)) .n)))))
noncomputable def fi37 : FI := mkFI Tryz.f37 0 [.ct (.sl 112), .ct (.i .i64)] [(false, [.ct (.i .i64)])] (fun _ => (.s .n (.s .n (.s .n (.s (.s .n (.b (.b (.s .n (.s (.b .n ⟨ol 112 :: oi :: uu 3 (oi :: uu 21 []), []⟩) .n)) ⟨ol 112 :: oi :: uu 3 (oi :: uu 21 []), []⟩) ⟨ou :: oi :: uu 25 [], []⟩)) .n)))))
noncomputable def fi107 : FI := mkFI Tryz.f107 0 [.ct (.sl 177), .ct (.i .i64)] [(false, [.ct (.i .i64)])] (fun _ => (.s .n (.s .n (.s .n (.s (.s .n (.b (.b (.s .n (.s (.b .n ⟨ol 177 :: oi :: uu 3 (oi :: uu 21 []), []⟩) .n)) ⟨ol 177 :: oi :: uu 3 (oi :: uu 21 []), []⟩) ⟨ou :: oi :: uu 25 [], []⟩)) .n)))))
noncomputable def fi109 : FI := mkFI Tryz.f109 4 [.ct (.sl 9)] [(false, [.new 9])] (fun _ => (.s .n (.s (.r [0, 0, 0, 0] none) (.s (.s .n (.b (.b (.s .n (.s (.b .n ⟨ol 9 :: ou :: ou :: .one (.own 9 2) :: oi :: uu 17 [], vv 4 []⟩) .n)) ⟨ol 9 :: ou :: ou :: .one (.own 9 1) :: oi :: uu 17 [], vv 4 []⟩) ⟨uu 3 (.one (.own 9 3) :: uu 18 []), vv 4 []⟩)) .n))))
noncomputable def fi110 : FI := mkFI Tryz.f110 7 [.ct (.sl 164)] [(false, [.new 1032])] (fun _ => (.s .n (.s (.r [0, 0, 1, 0] none) (.s (.s .n (.b (.b (.s .n (.s (.b (.r [0, 0, 0, 0, 0, 0, 3, 0, 0] none) ⟨ol 164 :: ou :: ou :: .one (.own 1032 5) :: oi :: uu 18 [], vv 7 []⟩) .n)) ⟨ol 164 :: ou :: ou :: .one (.own 1032 2) :: oi :: uu 18 [], vv 7 []⟩) ⟨uu 3 (.one (.own 1032 6) :: uu 19 []), vv 7 []⟩)) .n))))
noncomputable def fi111 : FI := mkFI Tryz.f111 8 [.ct (.sl 170)] [(false, [.new 1123])] (fun _ => (.s .n (.s (.r [0, 0, 1, 0] none) (.s (.s .n (.b (.b (.s .n (.s (.b (.r [0, 0, 0, 0, 0, 0, 3, 0, 0] none) ⟨ol 170 :: ou :: ou :: .one (.own 1123 6) :: oi :: uu 18 [], vv 8 []⟩) .n)) ⟨ol 170 :: ou :: ou :: .one (.own 1123 2) :: oi :: uu 18 [], vv 8 []⟩) ⟨uu 3 (.one (.own 1123 7) :: uu 19 []), vv 8 []⟩)) .n))))
noncomputable def fi112 : FI := mkFI Tryz.f112 6 [.ct (.sl 173)] [(false, [.new 1145])] (fun _ => (.s .n (.s (.r [0, 0, 1, 0] none) (.s (.s .n (.b (.b (.s .n (.s (.b (.r [0, 0, 0, 0, 0, 0, 3, 0, 0] none) ⟨ol 173 :: ou :: ou :: .one (.own 1145 4) :: oi :: uu 18 [], vv 6 []⟩) .n)) ⟨ol 173 :: ou :: ou :: .one (.own 1145 2) :: oi :: uu 18 [], vv 6 []⟩) ⟨uu 3 (.one (.own 1145 5) :: uu 19 []), vv 6 []⟩)) .n))))
noncomputable def fi40 : FI := mkFI Tryz.f40 4 [.ct (.sl 112)] [(false, [.new 109])] (fun _ => (.s .n (.s (.r [0, 0, 0, 0] none) (.s (.s .n (.b (.b (.s .n (.s (.b .n ⟨ol 112 :: ou :: ou :: .one (.own 109 2) :: oi :: uu 18 [], vv 4 []⟩) .n)) ⟨ol 112 :: ou :: ou :: .one (.own 109 1) :: oi :: uu 18 [], vv 4 []⟩) ⟨uu 3 (.one (.own 109 3) :: uu 19 []), vv 4 []⟩)) .n))))
noncomputable def fi113 : FI := mkFI Tryz.f113 6 [.ct (.sl 177)] [(false, [.new 1127])] (fun _ => (.s .n (.s (.r [0, 0, 1, 0] none) (.s (.s .n (.b (.b (.s .n (.s (.b (.r [0, 0, 0, 0, 0, 0, 3, 0, 0] none) ⟨ol 177 :: ou :: ou :: .one (.own 1127 4) :: oi :: uu 18 [], vv 6 []⟩) .n)) ⟨ol 177 :: ou :: ou :: .one (.own 1127 2) :: oi :: uu 18 [], vv 6 []⟩) ⟨uu 3 (.one (.own 1127 5) :: uu 19 []), vv 6 []⟩)) .n))))
noncomputable def fi39 : FI := mkFI Tryz.f39 11 [.ct (.sl 32)] [(false, [.new 1032])] (fun _ => (.s .n (.s (.r [1, 0] none) (.s (.s .n (.b (.b (.s .n (.s (.b (.s (.r [0, 0, 0, 0, 3, 0] none) (.s (.r [0, 0, 4, 0, 0] none) (.s (.r [0, 0, 5, 0, 0] none) (.r [0, 0, 7, 8, 0] none)))) ⟨ol 32 :: ou :: ou :: .one (.own 1032 9) :: oi :: uu 25 [], vv 11 []⟩) .n)) ⟨ol 32 :: ou :: ou :: .one (.own 1032 2) :: oi :: uu 25 [], vv 11 []⟩) ⟨uu 3 (.one (.own 1032 10) :: uu 26 []), vv 11 []⟩)) .n))))
noncomputable def fi89 : FI := mkFI Tryz.f89 11 [.ct (.sl 123)] [(false, [.new 1123])] (fun _ => (.s .n (.s (.r [1, 0] none) (.s (.s .n (.b (.b (.s .n (.s (.b (.s (.r [0, 0, 0, 0, 3, 0] none) (.s (.r [0, 0, 4, 0, 0] none) (.s (.r [0, 0, 6, 0, 0] none) (.r [0, 0, 7, 8, 0] none)))) ⟨ol 123 :: ou :: ou :: .one (.own 1123 9) :: oi :: uu 25 [], vv 11 []⟩) .n)) ⟨ol 123 :: ou :: ou :: .one (.own 1123 2) :: oi :: uu 25 [], vv 11 []⟩) ⟨uu 3 (.one (.own 1123 10) :: uu 26 []), vv 11 []⟩)) .n))))
noncomputable def fi108 : FI := mkFI Tryz.f108 9 [.ct (.sl 145)] [(false, [.new 1145])] (fun _ => (.s .n (.s (.r [1, 0] none) (.s (.s .n (.b (.b (.s .n (.s (.b (.s (.r [0, 0, 0, 0, 3, 0] none) (.s (.r [0, 0, 4, 0, 0] none) (.r [0, 0, 5, 6, 0] none))) ⟨ol 145 :: ou :: ou :: .one (.own 1145 7) :: oi :: uu 21 [], vv 9 []⟩) .n)) ⟨ol 145 :: ou :: ou :: .one (.own 1145 2) :: oi :: uu 21 [], vv 9 []⟩) ⟨uu 3 (.one (.own 1145 8) :: uu 22 []), vv 9 []⟩)) .n))))
noncomputable def fi90 : FI := mkFI Tryz.f90 9 [.ct (.sl 127)] [(false, [.new 1127])] (fun _ => (.s .n (.s (.r [1, 0] none) (.s (.s .n (.b (.b (.s .n (.s (.b (.r [0, 0, 0, 0, 0, 0, 0, 0, 0, 0, 0, 3, 0, 5, 6, 0] none) ⟨ol 127 :: ou :: ou :: .one (.own 1127 7) :: oi :: uu 23 [], vv 9 []⟩) .n)) ⟨ol 127 :: ou :: ou :: .one (.own 1127 2) :: oi :: uu 23 [], vv 9 []⟩) ⟨uu 3 (.one (.own 1127 8) :: uu 24 []), vv 9 []⟩)) .n))))
noncomputable def fi114 : FI := { mkFI Tryz.f114 4 [.ct (.sl 9)] [(false, [.new 9])] (fun _ => .n) with prim := some (primC 9) }
noncomputable def ac114 : AC := ann (clCond (Tryz.f114.body.getD .skip)) .n
noncomputable def ar114 : AC := ann (clRest (Tryz.f114.body.getD .skip)) (.s (.r [0, 0, 2, 0] none) .n)
theorem cl114 : ∀ b l, (b = true → l = []) → l.length < LIM → clRun (fun t => look t tyL) fi114 9 ac114 ar114 b l = .ret [.sl l] := by
  intro b l h1 h2
  cases b with
  | true =>
    obtain rfl := h1 rfl
    kernel_rfl
  | false =>
    refine (show clRun (fun t => look t tyL) fi114 9 ac114 ar114 false l = (if ([] : List (List DC)).length + l.length < LIM then Out.ret [.sl ([] ++ l)] else .fail) from by kernel_rfl).trans ?_
    rw [if_pos (by simpa using h2), List.nil_append]
noncomputable def fi42 : FI := mkFI Tryz.f42 8 [.ct (.sl 32)] [(false, [.new 1032])] (fun _ => (.s .n (.s .n (.s (.s .n (.b (.b (.s .n (.s .n (.s (.b (.s (.r [0, 0, 0, 0] none) (.s (.r [0, 0, 1, 0, 0] none) (.s (.r [0, 0, 2, 0, 0] none) (.r [0, 0, 3, 4, 0] none)))) ⟨uu 3 (.one (.own 1032 5) :: ou :: ou :: ol 32 :: oi :: oi :: uu 17 []), vv 8 []⟩) .n))) ⟨uu 3 (.one (.own 1032 6) :: ou :: ou :: ol 32 :: oi :: oi :: uu 17 []), vv 8 []⟩) ⟨uu 3 (.one (.own 1032 7) :: uu 22 []), vv 8 []⟩)) .n))))
noncomputable def fi94 : FI := mkFI Tryz.f94 10 [.ct (.sl 123)] [(false, [.new 1123])] (fun _ => (.s .n (.s .n (.s (.s .n (.b (.b (.s .n (.s .n (.s (.b (.s (.r [0, 0, 0, 0] none) (.s (.r [0, 0, 1, 0, 0] none) (.s (.r [0, 0, 3, 0, 0] none) (.r [0, 0, 5, 6, 0] none)))) ⟨uu 3 (.one (.own 1123 7) :: ou :: ou :: ol 123 :: oi :: oi :: uu 17 []), vv 10 []⟩) .n))) ⟨uu 3 (.one (.own 1123 8) :: ou :: ou :: ol 123 :: oi :: oi :: uu 17 []), vv 10 []⟩) ⟨uu 3 (.one (.own 1123 9) :: uu 22 []), vv 10 []⟩)) .n))))
noncomputable def fi115 : FI := mkFI Tryz.f115 8 [.ct (.sl 145)] [(false, [.new 1145])] (fun _ => (.s .n (.s .n (.s (.s .n (.b (.b (.s .n (.s .n (.s (.b (.s (.r [0, 0, 0, 0] none) (.s (.r [0, 0, 1, 0, 0] none) (.r [0, 0, 3, 4, 0] none))) ⟨uu 3 (.one (.own 1145 5) :: ou :: ou :: ol 145 :: oi :: oi :: uu 13 []), vv 8 []⟩) .n))) ⟨uu 3 (.one (.own 1145 6) :: ou :: ou :: ol 145 :: oi :: oi :: uu 13 []), vv 8 []⟩) ⟨uu 3 (.one (.own 1145 7) :: uu 18 []), vv 8 []⟩)) .n))))
noncomputable def fi116 : FI := { mkFI Tryz.f116 4 [.ct (.sl 109)] [(false, [.new 109])] (fun _ => .n) with prim := some (primC 109) }
noncomputable def ac116 : AC := ann (clCond (Tryz.f116.body.getD .skip)) .n
noncomputable def ar116 : AC := ann (clRest (Tryz.f116.body.getD .skip)) (.s (.r [0, 0, 2, 0] none) .n)
theorem cl116 : ∀ b l, (b = true → l = []) → l.length < LIM → clRun (fun t => look t tyL) fi116 109 ac116 ar116 b l = .ret [.sl l] := by
  intro b l h1 h2
  cases b with
  | true =>
    obtain rfl := h1 rfl
    kernel_rfl
  | false =>
    refine (show clRun (fun t => look t tyL) fi116 109 ac116 ar116 false l = (if ([] : List (List DC)).length + l.length < LIM then Out.ret [.sl ([] ++ l)] else .fail) from by kernel_rfl).trans ?_
    rw [if_pos (by simpa using h2), List.nil_append]
noncomputable def fi95 : FI := mkFI Tryz.f95 8 [.ct (.sl 127)] [(false, [.new 1127])] (fun _ => (.s .n (.s .n (.s (.s .n (.b (.b (.s .n (.s .n (.s (.b (.s (.r [0, 0, 0, 0] none) (.r [0, 0, 0, 0, 0, 1, 0, 3, 4, 0] none)) ⟨uu 3 (.one (.own 1127 5) :: ou :: ou :: ol 127 :: oi :: oi :: uu 14 []), vv 8 []⟩) .n))) ⟨uu 3 (.one (.own 1127 6) :: ou :: ou :: ol 127 :: oi :: oi :: uu 14 []), vv 8 []⟩) ⟨uu 3 (.one (.own 1127 7) :: uu 19 []), vv 8 []⟩)) .n))))
noncomputable def fi29 : FI := mkFI Tryz.f29 0 [.ct (.sl 9), .ct (.sl 9)] [(false, [.ct .b])] (fun _ => (.s .n (.s .n (.s (.s .n (.b (.b (.s .n (.s (.b .n ⟨ol 9 :: ol 9 :: uu 3 (oi :: uu 20 []), []⟩) .n)) ⟨ol 9 :: ol 9 :: uu 3 (oi :: uu 20 []), []⟩) ⟨uu 26 [], []⟩)) .n))))
noncomputable def fi117 : FI := mkFI Tryz.f117 0 [.ct (.sl 32), .ct (.sl 32)] [(false, [.ct .b])] (fun _ => (.s .n (.s .n (.s (.s .n (.b (.b (.s .n (.s (.b .n ⟨ol 32 :: ol 32 :: uu 3 (oi :: uu 21 []), []⟩) .n)) ⟨ol 32 :: ol 32 :: uu 3 (oi :: uu 21 []), []⟩) ⟨uu 27 [], []⟩)) .n))))
noncomputable def fi43 : FI := mkFI Tryz.f43 0 [.ct (.sl 123), .ct (.sl 123)] [(false, [.ct .b])] (fun _ => (.s .n (.s .n (.s (.s .n (.b (.b (.s .n (.s (.b .n ⟨ol 123 :: ol 123 :: uu 3 (oi :: uu 21 []), []⟩) .n)) ⟨ol 123 :: ol 123 :: uu 3 (oi :: uu 21 []), []⟩) ⟨uu 27 [], []⟩)) .n))))
noncomputable def fi118 : FI := mkFI Tryz.f118 0 [.ct (.sl 145), .ct (.sl 145)] [(false, [.ct .b])] (fun _ => (.s .n (.s .n (.s (.s .n (.b (.b (.s .n (.s (.b .n ⟨ol 145 :: ol 145 :: uu 3 (oi :: uu 21 []), []⟩) .n)) ⟨ol 145 :: ol 145 :: uu 3 (oi :: uu 21 []), []⟩) ⟨uu 27 [], []⟩)) .n))))
noncomputable def fi46 : FI := mkFI Tryz.f46 0 [.ct (.sl 109), .ct (.sl 109)] [(false, [.ct .b])] (fun _ => (.s .n (.s .n (.s (.s .n (.b (.b (.s .n (.s (.b .n ⟨ol 109 :: ol 109 :: uu 3 (oi :: uu 21 []), []⟩) .n)) ⟨ol 109 :: ol 109 :: uu 3 (oi :: uu 21 []), []⟩) ⟨uu 27 [], []⟩)) .n))))
noncomputable def fi45 : FI := mkFI Tryz.f45 0 [.ct (.sl 127), .ct (.sl 127)] [(false, [.ct .b])] (fun _ => (.s .n (.s .n (.s (.s .n (.b (.b (.s .n (.s (.b .n ⟨ol 127 :: ol 127 :: uu 3 (oi :: uu 21 []), []⟩) .n)) ⟨ol 127 :: ol 127 :: uu 3 (oi :: uu 21 []), []⟩) ⟨uu 27 [], []⟩)) .n))))
noncomputable def fi101 : FI := mkFI Tryz.f101 0 [.ct (.sl 121), .ct (.i .i64)] [(false, [.ct (.i .i64)])] (fun _ => (.s .n (.s (.s .n (.b (.b (.s .n (.s (.b .n ⟨ol 121 :: oi :: uu 3 (oi :: uu 44 []), []⟩) .n)) ⟨ol 121 :: oi :: uu 3 (oi :: uu 44 []), []⟩) ⟨ou :: oi :: uu 48 [], []⟩)) .n)))
noncomputable def fi102 : FI := mkFI Tryz.f102 0 [.ct (.sl 160), .ct (.i .i64)] [(false, [.ct (.i .i64)])] (fun _ => (.s .n (.s (.s .n (.b (.b (.s .n (.s (.b .n ⟨ol 160 :: oi :: uu 3 (oi :: uu 58 []), []⟩) .n)) ⟨ol 160 :: oi :: uu 3 (oi :: uu 58 []), []⟩) ⟨ou :: oi :: uu 62 [], []⟩)) .n)))
noncomputable def fi139 : FI := mkFI Tryz.f139 1 [.ag [.s, .s, .sl 170, .s, .s, .sl 177], .ct (.i .i64)] [(false, [.ct (.i .i64)])] (fun _ => (.s (.r [0, 0] none) .n))
noncomputable def fi140 : FI := mkFI Tryz.f140 1 [.ag [.s, .s, .s, .s, .b, .i .i64, .s, .sl 168, .sl 9, .sl 177], .ct (.i .i64)] [(false, [.ct (.i .i64)])] (fun _ => (.s (.r [0, 0] none) .n))
noncomputable def fi141 : FI := mkFI Tryz.f141 1 [.ag [.s, .s, .sl 177], .ct (.i .i64)] [(false, [.ct (.i .i64)])] (fun _ => (.s (.r [0, 0] none) .n))
noncomputable def fi87 : FI := mkFI Tryz.f87 1 [.ag [.i .i64, .s], .ct (.i .i64)] [(false, [.ct (.i .i64)])] (fun _ => (.s (.r [0, 0] none) .n))
noncomputable def fi142 : FI := mkFI Tryz.f142 1 [.ag [.s, .sl 221], .ct (.i .i64)] [(false, [.ct (.i .i64)])] (fun _ => (.s (.r [0, 0] none) .n))
noncomputable def fi143 : FI := mkFI Tryz.f143 5 [.ag [.s, .s, .sl 170, .s, .s, .sl 177]] [(true, [.ct .s, .ct .s, .new 1123, .ct .s, .ct .s, .new 1127])] (fun _ => (.s (.r [0, 1] none) (.s (.r [2] none) (.s .n (.s .n (.s (.r [0, 0, 3, 0, 0] none) (.s .n (.s (.r [0, 0, 4, 0, 0] none) .n))))))))
noncomputable def fi144 : FI := mkFI Tryz.f144 6 [.ag [.s, .s, .s, .s, .b, .i .i64, .s, .sl 168, .sl 9, .sl 177]] [(true, [.ct .s, .ct .s, .ct .s, .ct .s, .ct .b, .ct (.i .i64), .ct .s, .new 1121, .new 9, .new 1127])] (fun _ => (.s (.r [0, 1] none) (.s (.r [2] none) (.s .n (.s .n (.s .n (.s .n (.s (.r [0, 0, 3, 0, 0] none) (.s (.r [0, 0, 5, 0, 0] none) .n)))))))))
noncomputable def fi145 : FI := mkFI Tryz.f145 4 [.ag [.s, .s, .sl 177]] [(true, [.ct .s, .ct .s, .new 1127])] (fun _ => (.s (.r [0, 1] none) (.s (.r [2] none) (.s .n (.s .n (.s (.r [0, 0, 3, 0, 0] none) .n))))))
noncomputable def fi91 : FI := mkFI Tryz.f91 3 [.ag [.i .i64, .s]] [(true, [.ct (.i .i64), .ct .s])] (fun _ => (.s (.r [0, 1] none) (.s (.r [2] none) .n)))
noncomputable def fi146 : FI := mkFI Tryz.f146 4 [.ag [.s, .sl 221]] [(true, [.ct .s, .new 1160])] (fun _ => (.s (.r [0, 1] none) (.s (.r [2] none) (.s .n (.s (.r [0, 0, 3, 0, 0] none) .n)))))
noncomputable def fi130 : FI := mkFI Tryz.f130 16 [.ag [.i .i64, .s, .sl 121, .sl 9]] [(true, [.ct (.i .i64), .ct .s, .new 1121, .new 9])] (fun _ => (.s (.r [0, 1] none) (.s (.r [0, 0, 0, 0, 2, 0, 0, 3, 0, 4, 0] none) (.s (.s .n (.b (.b (.s .n (.s (.b (.r [0, 0, 0, 0, 0, 0, 0, 6, 9, 10, 0, 0] none) ⟨ou :: .one (.ptr 0 0) :: .one (.ptr 1 0) :: .one (.ptr 4 0) :: oi :: uu 28 [], .var 121 [.i .i64, .s, .sl 121, .sl 9] :: .var 121 [.i .i64, .s, .nil, .nil] :: .u :: .u :: .var 121 [.i .i64, .s, .own 1121 11, .own 9 12] :: vv 11 []⟩) .n)) ⟨ou :: .one (.ptr 0 0) :: .one (.ptr 1 0) :: .one (.ptr 4 0) :: oi :: uu 28 [], .var 121 [.i .i64, .s, .sl 121, .sl 9] :: .var 121 [.i .i64, .s, .nil, .nil] :: .u :: .u :: .var 121 [.i .i64, .s, .own 1121 13, .own 9 5] :: vv 11 []⟩) ⟨ou :: ou :: .one (.ptr 1 0) :: .one (.ptr 4 0) :: uu 29 [], .u :: .var 121 [.i .i64, .s, .nil, .nil] :: .u :: .u :: .var 121 [.i .i64, .s, .own 1121 14, .own 9 15] :: vv 11 []⟩)) .n))))
noncomputable def fi131 : FI := mkFI Tryz.f131 9 [.ct (.sl 160)] [(false, [.new 1160])] (fun _ => (.s .n (.s (.r [1, 0] none) (.s (.s .n (.b (.b (.s .n (.s (.b (.r [0, 0, 0, 0, 0, 0, 0, 0, 0, 0, 0, 3, 0, 5, 6, 0] none) ⟨ol 160 :: ou :: ou :: .one (.own 1160 7) :: oi :: uu 23 [], vv 9 []⟩) .n)) ⟨ol 160 :: ou :: ou :: .one (.own 1160 2) :: oi :: uu 23 [], vv 9 []⟩) ⟨uu 3 (.one (.own 1160 8) :: uu 24 []), vv 9 []⟩)) .n))))
noncomputable def fi135 : FI := mkFI Tryz.f135 16 [.ag [.i .i64, .s, .sl 121, .sl 9]] [(true, [.ct (.i .i64), .ct .s, .new 1121, .new 9])] (fun _ => (.s (.r [0, 1] none) (.s (.r [0, 0, 0, 0, 0, 0, 2, 0, 3, 0] none) (.s (.s .n (.b (.b (.s .n (.s .n (.s (.b (.s (.r [0, 0, 5, 0] none) (.r [0, 0, 0, 6, 9, 10, 0, 0] none)) ⟨ou :: ou :: .one (.ptr 1 0) :: .one (.ptr 3 0) :: uu 11 (ol 121 :: oi :: oi :: uu 12 []), .u :: .var 121 [.i .i64, .s, .nil, .nil] :: .u :: .var 121 [.i .i64, .s, .own 1121 11, .own 9 12] :: vv 12 []⟩) .n))) ⟨ou :: ou :: .one (.ptr 1 0) :: .one (.ptr 3 0) :: uu 11 (ol 121 :: oi :: oi :: uu 12 []), .u :: .var 121 [.i .i64, .s, .nil, .nil] :: .u :: .var 121 [.i .i64, .s, .own 1121 13, .own 9 4] :: vv 12 []⟩) ⟨ou :: ou :: .one (.ptr 1 0) :: .one (.ptr 3 0) :: uu 26 [], .u :: .var 121 [.i .i64, .s, .nil, .nil] :: .u :: .var 121 [.i .i64, .s, .own 1121 14, .own 9 15] :: vv 12 []⟩)) .n))))
noncomputable def fi136 : FI := mkFI Tryz.f136 8 [.ct (.sl 160)] [(false, [.new 1160])] (fun _ => (.s .n (.s .n (.s (.s .n (.b (.b (.s .n (.s .n (.s (.b (.s (.r [0, 0, 0, 0] none) (.r [0, 0, 0, 0, 0, 1, 0, 3, 4, 0] none)) ⟨uu 3 (.one (.own 1160 5) :: ou :: ou :: ol 160 :: oi :: oi :: uu 14 []), vv 8 []⟩) .n))) ⟨uu 3 (.one (.own 1160 6) :: ou :: ou :: ol 160 :: oi :: oi :: uu 14 []), vv 8 []⟩) ⟨uu 3 (.one (.own 1160 7) :: uu 19 []), vv 8 []⟩)) .n))))
noncomputable def fi12 : FI := mkFI Tryz.f12 2 [.ag [.s, .s, .sl 123, .s, .s, .sl 127], .ag [.s, .s, .sl 123, .s, .s, .sl 127]] [(false, [.ct .b])] (fun _ => (.s (.r [0, 1, 0] none) .n))
noncomputable def fi96 : FI := mkFI Tryz.f96 2 [.ag [.s, .s, .s, .s, .b, .i .i64, .s, .sl 121, .sl 9, .sl 127], .ag [.s, .s, .s, .s, .b, .i .i64, .s, .sl 121, .sl 9, .sl 127]] [(false, [.ct .b])] (fun _ => (.s (.r [0, 1, 0] none) .n))
noncomputable def fi147 : FI := mkFI Tryz.f147 2 [.ag [.s, .s, .sl 127], .ag [.s, .s, .sl 127]] [(false, [.ct .b])] (fun _ => (.s (.r [0, 1, 0] none) .n))
noncomputable def fi98 : FI := mkFI Tryz.f98 2 [.ag [.i .i64, .s], .ag [.i .i64, .s]] [(false, [.ct .b])] (fun _ => (.s (.r [0, 1, 0] none) .n))
noncomputable def fi97 : FI := mkFI Tryz.f97 2 [.ag [.s, .sl 160], .ag [.s, .sl 160]] [(false, [.ct .b])] (fun _ => (.s (.r [0, 1, 0] none) .n))
noncomputable def fi169 : FI := mkFI Tryz.f169 1 [.ag [.s, .s], .ct (.i .i64)] [(false, [.ct (.i .i64)])] (fun _ => (.s (.r [0, 0] none) .n))
noncomputable def fi170 : FI := mkFI Tryz.f170 1 [.ag [.i .i64, .s, .sl 168, .sl 9], .ct (.i .i64)] [(false, [.ct (.i .i64)])] (fun _ => (.s (.r [0, 0] none) .n))
noncomputable def fi171 : FI := mkFI Tryz.f171 0 [.ct (.sl 221), .ct (.i .i64)] [(false, [.ct (.i .i64)])] (fun _ => (.s .n (.s .n (.s .n (.s (.s .n (.b (.b (.s .n (.s (.b .n ⟨ol 221 :: oi :: uu 3 (oi :: uu 21 []), []⟩) .n)) ⟨ol 221 :: oi :: uu 3 (oi :: uu 21 []), []⟩) ⟨ou :: oi :: uu 25 [], []⟩)) .n)))))
noncomputable def fi172 : FI := mkFI Tryz.f172 3 [.ag [.s, .s]] [(true, [.ct .s, .ct .s])] (fun _ => (.s (.r [0, 1] none) (.s (.r [2] none) .n)))
noncomputable def fi173 : FI := mkFI Tryz.f173 5 [.ag [.i .i64, .s, .sl 168, .sl 9]] [(true, [.ct (.i .i64), .ct .s, .new 1121, .new 9])] (fun _ => (.s (.r [0, 1] none) (.s (.r [2] none) (.s .n (.s .n (.s (.r [0, 0, 3, 0, 0] none) (.s (.r [0, 0, 4, 0, 0] none) .n)))))))
noncomputable def fi174 : FI := mkFI Tryz.f174 7 [.ct (.sl 221)] [(false, [.new 1160])] (fun _ => (.s .n (.s (.r [0, 0, 1, 0] none) (.s (.s .n (.b (.b (.s .n (.s (.b (.r [0, 0, 0, 0, 0, 0, 3, 0, 0] none) ⟨ol 221 :: ou :: ou :: .one (.own 1160 5) :: oi :: uu 18 [], vv 7 []⟩) .n)) ⟨ol 221 :: ou :: ou :: .one (.own 1160 2) :: oi :: uu 18 [], vv 7 []⟩) ⟨uu 3 (.one (.own 1160 6) :: uu 19 []), vv 7 []⟩)) .n))))
noncomputable def fi44 : FI := mkFI Tryz.f44 2 [.ag [.s, .s], .ag [.s, .s]] [(false, [.ct .b])] (fun _ => (.s (.r [0, 1, 0] none) .n))
noncomputable def fi137 : FI := mkFI Tryz.f137 2 [.ag [.i .i64, .s, .sl 121, .sl 9], .ag [.i .i64, .s, .sl 121, .sl 9]] [(false, [.ct .b])] (fun _ => (.s (.r [0, 1, 0] none) .n))
noncomputable def fi138 : FI := mkFI Tryz.f138 0 [.ct (.sl 160), .ct (.sl 160)] [(false, [.ct .b])] (fun _ => (.s .n (.s .n (.s (.s .n (.b (.b (.s .n (.s (.b .n ⟨ol 160 :: ol 160 :: uu 3 (oi :: uu 21 []), []⟩) .n)) ⟨ol 160 :: ol 160 :: uu 3 (oi :: uu 21 []), []⟩) ⟨uu 27 [], []⟩)) .n))))
noncomputable def fi185 : FI := mkFI Tryz.f185 0 [.ct (.sl 168), .ct (.i .i64)] [(false, [.ct (.i .i64)])] (fun _ => (.s .n (.s .n (.s .n (.s (.s .n (.b (.b (.s .n (.s (.b .n ⟨ol 168 :: oi :: uu 3 (oi :: uu 21 []), []⟩) .n)) ⟨ol 168 :: oi :: uu 3 (oi :: uu 21 []), []⟩) ⟨ou :: oi :: uu 25 [], []⟩)) .n)))))
noncomputable def fi186 : FI := mkFI Tryz.f186 1 [.ag [.s, .i .i64, .s, .sl 168, .sl 9], .ct (.i .i64)] [(false, [.ct (.i .i64)])] (fun _ => (.s (.r [0, 0] none) .n))
noncomputable def fi187 : FI := mkFI Tryz.f187 7 [.ct (.sl 168)] [(false, [.new 1121])] (fun _ => (.s .n (.s (.r [0, 0, 1, 0] none) (.s (.s .n (.b (.b (.s .n (.s (.b (.r [0, 0, 0, 0, 0, 0, 3, 0, 0] none) ⟨ol 168 :: ou :: ou :: .one (.own 1121 5) :: oi :: uu 18 [], vv 7 []⟩) .n)) ⟨ol 168 :: ou :: ou :: .one (.own 1121 2) :: oi :: uu 18 [], vv 7 []⟩) ⟨uu 3 (.one (.own 1121 6) :: uu 19 []), vv 7 []⟩)) .n))))
noncomputable def fi188 : FI := mkFI Tryz.f188 5 [.ag [.s, .i .i64, .s, .sl 168, .sl 9]] [(true, [.ct .s, .ct (.i .i64), .ct .s, .new 1121, .new 9])] (fun _ => (.s (.r [0, 1] none) (.s (.r [2] none) (.s .n (.s (.r [0, 0, 3, 0, 0] none) .n)))))
noncomputable def fi167 : FI := mkFI Tryz.f167 0 [.ct (.sl 121), .ct (.sl 121)] [(false, [.ct .b])] (fun _ => (.s .n (.s .n (.s (.s .n (.b (.b (.s .n (.s (.b .n ⟨ol 121 :: ol 121 :: uu 3 (oi :: uu 21 []), []⟩) .n)) ⟨ol 121 :: ol 121 :: uu 3 (oi :: uu 21 []), []⟩) ⟨uu 27 [], []⟩)) .n))))
noncomputable def fi168 : FI := mkFI Tryz.f168 2 [.ag [.s, .i .i64, .s, .sl 121, .sl 9], .ag [.s, .i .i64, .s, .sl 121, .sl 9]] [(false, [.ct .b])] (fun _ => (.s (.r [0, 1, 0] none) .n))
noncomputable def fi23 : FI := { mkFI Tryz.f23 0 [] [] (fun _ => .n) with mark := some (mkI mT mTab 23 84) }
noncomputable def fi24 : FI := { mkFI Tryz.f24 0 [] [] (fun _ => .n) with mark := some (mkI mT mTab 24 81) }
noncomputable def fi30 : FI := { mkFI Tryz.f30 0 [] [] (fun _ => .n) with mark := some (mkI mT mTab 30 9) }
noncomputable def fi47 : FI := { mkFI Tryz.f47 0 [] [] (fun _ => .n) with mark := some (mkI mT mTab 47 109) }
noncomputable def fi48 : FI := { mkFI Tryz.f48 0 [] [] (fun _ => .n) with mark := some (mkI mT mTab 48 123) }
noncomputable def fi49 : FI := { mkFI Tryz.f49 0 [] [] (fun _ => .n) with mark := some (mkI mT mTab 49 127) }
noncomputable def fi68 : FI := { mkFI Tryz.f68 0 [] [] (fun _ => .n) with mark := some (mkI mT mTab 68 32) }
noncomputable def fi69 : FI := { mkFI Tryz.f69 0 [] [] (fun _ => .n) with mark := some (mkI mT mTab 69 145) }
noncomputable def fi99 : FI := { mkFI Tryz.f99 0 [] [] (fun _ => .n) with mark := some (mkI mT mTab 99 121) }
noncomputable def fi100 : FI := { mkFI Tryz.f100 0 [] [] (fun _ => .n) with mark := some (mkI mT mTab 100 160) }
noncomputable def fi58 : FI := { mkFI Tryz.f58 0 [] [] (fun _ => .n) with stf := some (qFnd rAny 84 59 [.i .i64, .b, .s, .s, .sl 9, .sl 32, .sl 123, .sl 145, .sl 109, .b, .sl 127] alkP) }
noncomputable def fi62 : FI := { mkFI Tryz.f62 0 [] [] (fun _ => .n) with stf := some (qFnd rIdx 84 63 [.i .i64, .b, .s, .s, .sl 9, .sl 32, .sl 123, .sl 145, .sl 109, .b, .sl 127] alkP) }
noncomputable def fnL : List (Nat × FI) := [(4, fi4), (17, fi17), (19, fi19), (18, fi18), (20, fi20), (21, fi21), (22, fi22), (25, fi25), (26, fi26), (52, fi52), (57, fi57), (54, fi54), (53, fi53), (55, fi55), (56, fi56), (61, fi61), (64, fi64), (65, fi65), (66, fi66), (67, fi67), (31, fi31), (70, fi70), (50, fi50), (71, fi71), (72, fi72), (51, fi51), (103, fi103), (104, fi104), (105, fi105), (106, fi106), (37, fi37), (107, fi107), (109, fi109), (110, fi110), (111, fi111), (112, fi112), (40, fi40), (113, fi113), (39, fi39), (89, fi89), (108, fi108), (90, fi90), (114, fi114), (42, fi42), (94, fi94), (115, fi115), (116, fi116), (95, fi95), (29, fi29), (117, fi117), (43, fi43), (118, fi118), (46, fi46), (45, fi45), (101, fi101), (102, fi102), (139, fi139), (140, fi140), (141, fi141), (87, fi87), (142, fi142), (143, fi143), (144, fi144), (145, fi145), (91, fi91), (146, fi146), (130, fi130), (131, fi131), (135, fi135), (136, fi136), (12, fi12), (96, fi96), (147, fi147), (98, fi98), (97, fi97), (169, fi169), (170, fi170), (171, fi171), (172, fi172), (173, fi173), (174, fi174), (44, fi44), (137, fi137), (138, fi138), (185, fi185), (186, fi186), (187, fi187), (188, fi188), (167, fi167), (168, fi168), (23, fi23), (24, fi24), (30, fi30), (47, fi47), (48, fi48), (49, fi49), (68, fi68), (69, fi69), (99, fi99), (100, fi100), (58, fi58), (62, fi62)]
noncomputable def cfg : Cfg := ⟨fun t => look t tyL, fun f => look f fnL⟩
theorem fns : ∀ x ∈ fnL, FnOk Tryz.prog Glob.none cfg.ty x.1 x.2 :=
  all_cons (mkFI_ok Tryz.func4 (by kernel_rfl)) <|
  all_cons (mkFI_ok Tryz.func17 (by kernel_rfl)) <|
  all_cons (mkFI_ok Tryz.func19 (by kernel_rfl)) <|
  all_cons (mkFI_ok Tryz.func18 (by kernel_rfl)) <|
  all_cons (mkFI_ok Tryz.func20 (by kernel_rfl)) <|
  all_cons (mkFI_ok Tryz.func21 (by kernel_rfl)) <|
  all_cons (mkFI_ok Tryz.func22 (by kernel_rfl)) <|
  all_cons (mkFI_ok Tryz.func25 (by kernel_rfl)) <|
  all_cons (mkFI_ok Tryz.func26 (by kernel_rfl)) <|
  all_cons (mkFI_ok Tryz.func52 (by kernel_rfl)) <|
  all_cons (mkFI_ok Tryz.func57 (by kernel_rfl)) <|
  all_cons (mkFI_ok Tryz.func54 (by kernel_rfl)) <|
  all_cons (mkFI_ok Tryz.func53 (by kernel_rfl)) <|
  all_cons (mkFI_ok Tryz.func55 (by kernel_rfl)) <|
  all_cons (mkFI_ok Tryz.func56 (by kernel_rfl)) <|
  all_cons (mkFI_ok Tryz.func61 (by kernel_rfl)) <|
  all_cons (mkFI_ok Tryz.func64 (by kernel_rfl)) <|
  all_cons (mkFI_ok Tryz.func65 (by kernel_rfl)) <|
  all_cons (mkFI_ok Tryz.func66 (by kernel_rfl)) <|
  all_cons (mkFI_ok Tryz.func67 (by kernel_rfl)) <|
  all_cons (mkFI_ok Tryz.func31 (by kernel_rfl)) <|
  all_cons (mkFI_ok Tryz.func70 (by kernel_rfl)) <|
  all_cons (mkFI_ok Tryz.func50 (by kernel_rfl)) <|
  all_cons (mkFI_ok Tryz.func71 (by kernel_rfl)) <|
  all_cons (mkFI_ok Tryz.func72 (by kernel_rfl)) <|
  all_cons (mkFI_ok Tryz.func51 (by kernel_rfl)) <|
  all_cons (mkFI_ok Tryz.func103 (by kernel_rfl)) <|
  all_cons (mkFI_ok Tryz.func104 (by kernel_rfl)) <|
  all_cons (mkFI_ok Tryz.func105 (by kernel_rfl)) <|
  all_cons (mkFI_ok Tryz.func106 (by kernel_rfl)) <|
  all_cons (mkFI_ok Tryz.func37 (by kernel_rfl)) <|
  all_cons (mkFI_ok Tryz.func107 (by kernel_rfl)) <|
  all_cons (mkFI_ok Tryz.func109 (by kernel_rfl)) <|
  all_cons (mkFI_ok Tryz.func110 (by kernel_rfl)) <|
  all_cons (mkFI_ok Tryz.func111 (by kernel_rfl)) <|
  all_cons (mkFI_ok Tryz.func112 (by kernel_rfl)) <|
  all_cons (mkFI_ok Tryz.func40 (by kernel_rfl)) <|
  all_cons (mkFI_ok Tryz.func113 (by kernel_rfl)) <|
  all_cons (mkFI_ok Tryz.func39 (by kernel_rfl)) <|
  all_cons (mkFI_ok Tryz.func89 (by kernel_rfl)) <|
  all_cons (mkFI_ok Tryz.func108 (by kernel_rfl)) <|
  all_cons (mkFI_ok Tryz.func90 (by kernel_rfl)) <|
  all_cons (prim_clone (e := 9) (ac := ac114) (ar := ar114) (tyB_ok tys).1 (by kernel_rfl) Tryz.func114 (by kernel_rfl) (by kernel_rfl) rfl rfl ⟨_, _, _, _, _, _, _, rfl, ⟨rfl, rfl, rfl⟩, ⟨rfl, rfl, rfl⟩, ⟨rfl, rfl, rfl⟩, Tryz.underlying55⟩ rfl rfl (by decide +kernel) cl114) <|
  all_cons (mkFI_ok Tryz.func42 (by kernel_rfl)) <|
  all_cons (mkFI_ok Tryz.func94 (by kernel_rfl)) <|
  all_cons (mkFI_ok Tryz.func115 (by kernel_rfl)) <|
  all_cons (prim_clone (e := 109) (ac := ac116) (ar := ar116) (tyB_ok tys).1 (by kernel_rfl) Tryz.func116 (by kernel_rfl) (by kernel_rfl) rfl rfl ⟨_, _, _, _, _, _, _, rfl, ⟨rfl, rfl, rfl⟩, ⟨rfl, rfl, rfl⟩, ⟨rfl, rfl, rfl⟩, Tryz.underlying36⟩ rfl rfl (by decide +kernel) cl116) <|
  all_cons (mkFI_ok Tryz.func95 (by kernel_rfl)) <|
  all_cons (mkFI_ok Tryz.func29 (by kernel_rfl)) <|
  all_cons (mkFI_ok Tryz.func117 (by kernel_rfl)) <|
  all_cons (mkFI_ok Tryz.func43 (by kernel_rfl)) <|
  all_cons (mkFI_ok Tryz.func118 (by kernel_rfl)) <|
  all_cons (mkFI_ok Tryz.func46 (by kernel_rfl)) <|
  all_cons (mkFI_ok Tryz.func45 (by kernel_rfl)) <|
  all_cons (mkFI_ok Tryz.func101 (by kernel_rfl)) <|
  all_cons (mkFI_ok Tryz.func102 (by kernel_rfl)) <|
  all_cons (mkFI_ok Tryz.func139 (by kernel_rfl)) <|
  all_cons (mkFI_ok Tryz.func140 (by kernel_rfl)) <|
  all_cons (mkFI_ok Tryz.func141 (by kernel_rfl)) <|
  all_cons (mkFI_ok Tryz.func87 (by kernel_rfl)) <|
  all_cons (mkFI_ok Tryz.func142 (by kernel_rfl)) <|
  all_cons (mkFI_ok Tryz.func143 (by kernel_rfl)) <|
  all_cons (mkFI_ok Tryz.func144 (by kernel_rfl)) <|
  all_cons (mkFI_ok Tryz.func145 (by kernel_rfl)) <|
  all_cons (mkFI_ok Tryz.func91 (by kernel_rfl)) <|
  all_cons (mkFI_ok Tryz.func146 (by kernel_rfl)) <|
  all_cons (mkFI_ok Tryz.func130 (by kernel_rfl)) <|
  all_cons (mkFI_ok Tryz.func131 (by kernel_rfl)) <|
  all_cons (mkFI_ok Tryz.func135 (by kernel_rfl)) <|
  all_cons (mkFI_ok Tryz.func136 (by kernel_rfl)) <|
  all_cons (mkFI_ok Tryz.func12 (by kernel_rfl)) <|
  all_cons (mkFI_ok Tryz.func96 (by kernel_rfl)) <|
  all_cons (mkFI_ok Tryz.func147 (by kernel_rfl)) <|
  all_cons (mkFI_ok Tryz.func98 (by kernel_rfl)) <|
  all_cons (mkFI_ok Tryz.func97 (by kernel_rfl)) <|
  all_cons (mkFI_ok Tryz.func169 (by kernel_rfl)) <|
  all_cons (mkFI_ok Tryz.func170 (by kernel_rfl)) <|
  all_cons (mkFI_ok Tryz.func171 (by kernel_rfl)) <|
  all_cons (mkFI_ok Tryz.func172 (by kernel_rfl)) <|
  all_cons (mkFI_ok Tryz.func173 (by kernel_rfl)) <|
  all_cons (mkFI_ok Tryz.func174 (by kernel_rfl)) <|
  all_cons (mkFI_ok Tryz.func44 (by kernel_rfl)) <|
  all_cons (mkFI_ok Tryz.func137 (by kernel_rfl)) <|
  all_cons (mkFI_ok Tryz.func138 (by kernel_rfl)) <|
  all_cons (mkFI_ok Tryz.func185 (by kernel_rfl)) <|
  all_cons (mkFI_ok Tryz.func186 (by kernel_rfl)) <|
  all_cons (mkFI_ok Tryz.func187 (by kernel_rfl)) <|
  all_cons (mkFI_ok Tryz.func188 (by kernel_rfl)) <|
  all_cons (mkFI_ok Tryz.func167 (by kernel_rfl)) <|
  all_cons (mkFI_ok Tryz.func168 (by kernel_rfl)) <|
  all_cons (mark_fn (mkFI_ok Tryz.func23 (by kernel_rfl)) rfl (mkI_ok mtabok (f := 23) (e := 84) (by kernel_rfl))) <|
  all_cons (mark_fn (mkFI_ok Tryz.func24 (by kernel_rfl)) rfl (mkI_ok mtabok (f := 24) (e := 81) (by kernel_rfl))) <|
  all_cons (mark_fn (mkFI_ok Tryz.func30 (by kernel_rfl)) rfl (mkI_ok mtabok (f := 30) (e := 9) (by kernel_rfl))) <|
  all_cons (mark_fn (mkFI_ok Tryz.func47 (by kernel_rfl)) rfl (mkI_ok mtabok (f := 47) (e := 109) (by kernel_rfl))) <|
  all_cons (mark_fn (mkFI_ok Tryz.func48 (by kernel_rfl)) rfl (mkI_ok mtabok (f := 48) (e := 123) (by kernel_rfl))) <|
  all_cons (mark_fn (mkFI_ok Tryz.func49 (by kernel_rfl)) rfl (mkI_ok mtabok (f := 49) (e := 127) (by kernel_rfl))) <|
  all_cons (mark_fn (mkFI_ok Tryz.func68 (by kernel_rfl)) rfl (mkI_ok mtabok (f := 68) (e := 32) (by kernel_rfl))) <|
  all_cons (mark_fn (mkFI_ok Tryz.func69 (by kernel_rfl)) rfl (mkI_ok mtabok (f := 69) (e := 145) (by kernel_rfl))) <|
  all_cons (mark_fn (mkFI_ok Tryz.func99 (by kernel_rfl)) rfl (mkI_ok mtabok (f := 99) (e := 121) (by kernel_rfl))) <|
  all_cons (mark_fn (mkFI_ok Tryz.func100 (by kernel_rfl)) rfl (mkI_ok mtabok (f := 100) (e := 160) (by kernel_rfl))) <|
  all_cons (stf_fn (mkFI_ok Tryz.func58 (by kernel_rfl)) stAny) <|
  all_cons (stf_fn (mkFI_ok Tryz.func62 (by kernel_rfl)) stIdx) <| all_nil
noncomputable def r_laws_FnExactJoin (a : List DC) : Out := Run cfg 4 ⟨ol 79 :: [], []⟩ a
noncomputable def r_laws_szDefS (a : List DC) : Out := Run cfg 17 ⟨ol 79 :: oi :: [], []⟩ a
noncomputable def r_laws_toDefS (a : List DC) : Out := Run cfg 19 ⟨ol 79 :: [], []⟩ a
noncomputable def r_spec_Join (a : List DC) : Out := Run cfg 18 ⟨ol 84 :: [], []⟩ a
noncomputable def r_impl_Join (a : List DC) : Out := Run cfg 20 ⟨ol 84 :: [], []⟩ a
noncomputable def r_laws_eqDefS (a : List DC) : Out := Run cfg 21 ⟨ol 84 :: ol 84 :: [], []⟩ a
noncomputable def r_laws_eqProblemS (a : List DC) : Out := Run cfg 22 ⟨ol 81 :: ol 81 :: [], []⟩ a
noncomputable def r_laws_heldDefS (a : List DC) : Out := Run cfg 25 ⟨ol 84 :: oi :: [], []⟩ a
noncomputable def r_laws_heldProblemS (a : List DC) : Out := Run cfg 26 ⟨ol 81 :: oi :: [], []⟩ a
noncomputable def r_laws_szDef (a : List DC) : Out := Run cfg 52 ⟨.agg [.i .i64, .b, .s, .s, .sl 9, .sl 164, .sl 170, .sl 173, .sl 112, .b, .sl 177] :: oi :: [], []⟩ a
noncomputable def r_laws_toDef (a : List DC) : Out := Run cfg 57 ⟨.agg [.i .i64, .b, .s, .s, .sl 9, .sl 164, .sl 170, .sl 173, .sl 112, .b, .sl 177] :: [], []⟩ a
noncomputable def r_spec_l16Group (a : List DC) : Out := Run cfg 54 ⟨oi :: [], []⟩ a
noncomputable def r_spec_l16At (a : List DC) : Out := Run cfg 53 ⟨ol 84 :: oi :: os :: [], []⟩ a
noncomputable def r_spec_l13Copy (a : List DC) : Out := Run cfg 55 ⟨.agg [.i .i64, .b, .s, .s, .sl 9, .sl 32, .sl 123, .sl 145, .sl 109, .b, .sl 127] :: [], []⟩ a
noncomputable def r_spec_Added (a : List DC) : Out := Run cfg 56 ⟨.agg [.i .i64, .b, .s, .s, .sl 9, .sl 32, .sl 123, .sl 145, .sl 109, .b, .sl 127] :: .agg [.i .i64, .b, .s, .s, .sl 9, .sl 32, .sl 123, .sl 145, .sl 109, .b, .sl 127] :: [], []⟩ a
noncomputable def r_impl_cloneDef (a : List DC) : Out := Run cfg 61 ⟨.agg [.i .i64, .b, .s, .s, .sl 9, .sl 32, .sl 123, .sl 145, .sl 109, .b, .sl 127] :: [], []⟩ a
noncomputable def r_impl_Added (a : List DC) : Out := Run cfg 64 ⟨.agg [.i .i64, .b, .s, .s, .sl 9, .sl 32, .sl 123, .sl 145, .sl 109, .b, .sl 127] :: .agg [.i .i64, .b, .s, .s, .sl 9, .sl 32, .sl 123, .sl 145, .sl 109, .b, .sl 127] :: [], []⟩ a
noncomputable def r_laws_eqDef (a : List DC) : Out := Run cfg 65 ⟨.agg [.i .i64, .b, .s, .s, .sl 9, .sl 32, .sl 123, .sl 145, .sl 109, .b, .sl 127] :: .agg [.i .i64, .b, .s, .s, .sl 9, .sl 32, .sl 123, .sl 145, .sl 109, .b, .sl 127] :: [], []⟩ a
noncomputable def r_laws_eqProblem (a : List DC) : Out := Run cfg 66 ⟨.agg [.i .i64, .s, .s] :: .agg [.i .i64, .s, .s] :: [], []⟩ a
noncomputable def r_laws_markText (a : List DC) : Out := Run cfg 67 ⟨oi :: [], []⟩ a
noncomputable def r_laws_heldStringS (a : List DC) : Out := Run cfg 31 ⟨ol 9 :: oi :: [], []⟩ a
noncomputable def r_laws_heldFieldDefS (a : List DC) : Out := Run cfg 70 ⟨ol 32 :: oi :: [], []⟩ a
noncomputable def r_laws_heldInDefS (a : List DC) : Out := Run cfg 50 ⟨ol 123 :: oi :: [], []⟩ a
noncomputable def r_laws_heldEnumDefS (a : List DC) : Out := Run cfg 71 ⟨ol 145 :: oi :: [], []⟩ a
noncomputable def r_laws_heldRootS (a : List DC) : Out := Run cfg 72 ⟨ol 109 :: oi :: [], []⟩ a
noncomputable def r_laws_heldDirS (a : List DC) : Out := Run cfg 51 ⟨ol 127 :: oi :: [], []⟩ a
noncomputable def r_laws_szStringS (a : List DC) : Out := Run cfg 103 ⟨ol 9 :: oi :: [], []⟩ a
noncomputable def r_laws_szFieldDefS (a : List DC) : Out := Run cfg 104 ⟨ol 164 :: oi :: [], []⟩ a
noncomputable def r_laws_szInDefS (a : List DC) : Out := Run cfg 105 ⟨ol 170 :: oi :: [], []⟩ a
noncomputable def r_laws_szEnumDefS (a : List DC) : Out := Run cfg 106 ⟨ol 173 :: oi :: [], []⟩ a
noncomputable def r_laws_szRootS (a : List DC) : Out := Run cfg 37 ⟨ol 112 :: oi :: [], []⟩ a
noncomputable def r_laws_szDirS (a : List DC) : Out := Run cfg 107 ⟨ol 177 :: oi :: [], []⟩ a
noncomputable def r_laws_toStringS (a : List DC) : Out := Run cfg 109 ⟨ol 9 :: [], []⟩ a
noncomputable def r_laws_toFieldDefS (a : List DC) : Out := Run cfg 110 ⟨ol 164 :: [], []⟩ a
noncomputable def r_laws_toInDefS (a : List DC) : Out := Run cfg 111 ⟨ol 170 :: [], []⟩ a
noncomputable def r_laws_toEnumDefS (a : List DC) : Out := Run cfg 112 ⟨ol 173 :: [], []⟩ a
noncomputable def r_laws_toRootS (a : List DC) : Out := Run cfg 40 ⟨ol 112 :: [], []⟩ a
noncomputable def r_laws_toDirS (a : List DC) : Out := Run cfg 113 ⟨ol 177 :: [], []⟩ a
noncomputable def r_spec_l13CopyFields (a : List DC) : Out := Run cfg 39 ⟨ol 32 :: [], []⟩ a
noncomputable def r_spec_l13CopyIns (a : List DC) : Out := Run cfg 89 ⟨ol 123 :: [], []⟩ a
noncomputable def r_spec_l13CopyValues (a : List DC) : Out := Run cfg 108 ⟨ol 145 :: [], []⟩ a
noncomputable def r_spec_l10Dirs (a : List DC) : Out := Run cfg 90 ⟨ol 127 :: [], []⟩ a
noncomputable def r_slices_Clone_string (a : List DC) : Out := Run cfg 114 h_slices_Clone_string a
noncomputable def r_impl_cloneFields (a : List DC) : Out := Run cfg 42 ⟨ol 32 :: [], []⟩ a
noncomputable def r_impl_cloneIns (a : List DC) : Out := Run cfg 94 ⟨ol 123 :: [], []⟩ a
noncomputable def r_impl_cloneEnums (a : List DC) : Out := Run cfg 115 ⟨ol 145 :: [], []⟩ a
noncomputable def r_slices_Clone_impl_Root (a : List DC) : Out := Run cfg 116 h_slices_Clone_impl_Root a
noncomputable def r_impl_cloneDirs (a : List DC) : Out := Run cfg 95 ⟨ol 127 :: [], []⟩ a
noncomputable def r_laws_eqStringS (a : List DC) : Out := Run cfg 29 ⟨ol 9 :: ol 9 :: [], []⟩ a
noncomputable def r_laws_eqFieldDefS (a : List DC) : Out := Run cfg 117 ⟨ol 32 :: ol 32 :: [], []⟩ a
noncomputable def r_laws_eqInDefS (a : List DC) : Out := Run cfg 43 ⟨ol 123 :: ol 123 :: [], []⟩ a
noncomputable def r_laws_eqEnumDefS (a : List DC) : Out := Run cfg 118 ⟨ol 145 :: ol 145 :: [], []⟩ a
noncomputable def r_laws_eqRootS (a : List DC) : Out := Run cfg 46 ⟨ol 109 :: ol 109 :: [], []⟩ a
noncomputable def r_laws_eqDirS (a : List DC) : Out := Run cfg 45 ⟨ol 127 :: ol 127 :: [], []⟩ a
noncomputable def r_laws_heldValueS (a : List DC) : Out := Run cfg 101 ⟨ol 121 :: oi :: [], []⟩ a
noncomputable def r_laws_heldArgS (a : List DC) : Out := Run cfg 102 ⟨ol 160 :: oi :: [], []⟩ a
noncomputable def r_laws_szFieldDef (a : List DC) : Out := Run cfg 139 ⟨.agg [.s, .s, .sl 170, .s, .s, .sl 177] :: oi :: [], []⟩ a
noncomputable def r_laws_szInDef (a : List DC) : Out := Run cfg 140 ⟨.agg [.s, .s, .s, .s, .b, .i .i64, .s, .sl 168, .sl 9, .sl 177] :: oi :: [], []⟩ a
noncomputable def r_laws_szEnumDef (a : List DC) : Out := Run cfg 141 ⟨.agg [.s, .s, .sl 177] :: oi :: [], []⟩ a
noncomputable def r_laws_szRoot (a : List DC) : Out := Run cfg 87 ⟨.agg [.i .i64, .s] :: oi :: [], []⟩ a
noncomputable def r_laws_szDir (a : List DC) : Out := Run cfg 142 ⟨.agg [.s, .sl 221] :: oi :: [], []⟩ a
noncomputable def r_laws_toFieldDef (a : List DC) : Out := Run cfg 143 ⟨.agg [.s, .s, .sl 170, .s, .s, .sl 177] :: [], []⟩ a
noncomputable def r_laws_toInDef (a : List DC) : Out := Run cfg 144 ⟨.agg [.s, .s, .s, .s, .b, .i .i64, .s, .sl 168, .sl 9, .sl 177] :: [], []⟩ a
noncomputable def r_laws_toEnumDef (a : List DC) : Out := Run cfg 145 ⟨.agg [.s, .s, .sl 177] :: [], []⟩ a
noncomputable def r_laws_toRoot (a : List DC) : Out := Run cfg 91 ⟨.agg [.i .i64, .s] :: [], []⟩ a
noncomputable def r_laws_toDir (a : List DC) : Out := Run cfg 146 ⟨.agg [.s, .sl 221] :: [], []⟩ a
noncomputable def r_spec_l07Copy (a : List DC) : Out := Run cfg 130 ⟨.agg [.i .i64, .s, .sl 121, .sl 9] :: [], []⟩ a
noncomputable def r_spec_l10Args (a : List DC) : Out := Run cfg 131 ⟨ol 160 :: [], []⟩ a
noncomputable def r_impl_cloneValue (a : List DC) : Out := Run cfg 135 ⟨.agg [.i .i64, .s, .sl 121, .sl 9] :: [], []⟩ a
noncomputable def r_impl_cloneArgs (a : List DC) : Out := Run cfg 136 ⟨ol 160 :: [], []⟩ a
noncomputable def r_laws_eqFieldDef (a : List DC) : Out := Run cfg 12 ⟨.agg [.s, .s, .sl 123, .s, .s, .sl 127] :: .agg [.s, .s, .sl 123, .s, .s, .sl 127] :: [], []⟩ a
noncomputable def r_laws_eqInDef (a : List DC) : Out := Run cfg 96 ⟨.agg [.s, .s, .s, .s, .b, .i .i64, .s, .sl 121, .sl 9, .sl 127] :: .agg [.s, .s, .s, .s, .b, .i .i64, .s, .sl 121, .sl 9, .sl 127] :: [], []⟩ a
noncomputable def r_laws_eqEnumDef (a : List DC) : Out := Run cfg 147 ⟨.agg [.s, .s, .sl 127] :: .agg [.s, .s, .sl 127] :: [], []⟩ a
noncomputable def r_laws_eqRoot (a : List DC) : Out := Run cfg 98 ⟨.agg [.i .i64, .s] :: .agg [.i .i64, .s] :: [], []⟩ a
noncomputable def r_laws_eqDir (a : List DC) : Out := Run cfg 97 ⟨.agg [.s, .sl 160] :: .agg [.s, .sl 160] :: [], []⟩ a
noncomputable def r_laws_szType (a : List DC) : Out := Run cfg 169 ⟨.agg [.s, .s] :: oi :: [], []⟩ a
noncomputable def r_laws_szValue (a : List DC) : Out := Run cfg 170 ⟨.agg [.i .i64, .s, .sl 168, .sl 9] :: oi :: [], []⟩ a
noncomputable def r_laws_szArgS (a : List DC) : Out := Run cfg 171 ⟨ol 221 :: oi :: [], []⟩ a
noncomputable def r_laws_toType (a : List DC) : Out := Run cfg 172 ⟨.agg [.s, .s] :: [], []⟩ a
noncomputable def r_laws_toValue (a : List DC) : Out := Run cfg 173 ⟨.agg [.i .i64, .s, .sl 168, .sl 9] :: [], []⟩ a
noncomputable def r_laws_toArgS (a : List DC) : Out := Run cfg 174 ⟨ol 221 :: [], []⟩ a
noncomputable def r_laws_eqType (a : List DC) : Out := Run cfg 44 ⟨.agg [.s, .s] :: .agg [.s, .s] :: [], []⟩ a
noncomputable def r_laws_eqValue (a : List DC) : Out := Run cfg 137 ⟨.agg [.i .i64, .s, .sl 121, .sl 9] :: .agg [.i .i64, .s, .sl 121, .sl 9] :: [], []⟩ a
noncomputable def r_laws_eqArgS (a : List DC) : Out := Run cfg 138 ⟨ol 160 :: ol 160 :: [], []⟩ a
noncomputable def r_laws_szValueS (a : List DC) : Out := Run cfg 185 ⟨ol 168 :: oi :: [], []⟩ a
noncomputable def r_laws_szArg (a : List DC) : Out := Run cfg 186 ⟨.agg [.s, .i .i64, .s, .sl 168, .sl 9] :: oi :: [], []⟩ a
noncomputable def r_laws_toValueS (a : List DC) : Out := Run cfg 187 ⟨ol 168 :: [], []⟩ a
noncomputable def r_laws_toArg (a : List DC) : Out := Run cfg 188 ⟨.agg [.s, .i .i64, .s, .sl 168, .sl 9] :: [], []⟩ a
noncomputable def r_laws_eqValueS (a : List DC) : Out := Run cfg 167 ⟨ol 121 :: ol 121 :: [], []⟩ a
noncomputable def r_laws_eqArg (a : List DC) : Out := Run cfg 168 ⟨.agg [.s, .i .i64, .s, .sl 121, .sl 9] :: .agg [.s, .i .i64, .s, .sl 121, .sl 9] :: [], []⟩ a
noncomputable def E_laws_FnExactJoin (a : List DC) : Out :=
 (r_laws_szDefS [.sl ((a.getD 0 d0).ll), .i (1048576 : Int)]).bindR fun r1 =>
 if (decide ((r1.getD 0 d0).ii < (0 : Int))) = true then
 .ret [.b true]
 else
 (r_laws_toDefS [.sl ((a.getD 0 d0).ll)]).bindR fun r2 =>
 (r_spec_Join [.sl ((r2.getD 0 d0).ll)]).bindR fun r3 =>
 (r_laws_toDefS [.sl ((a.getD 0 d0).ll)]).bindR fun r4 =>
 (r_impl_Join [.sl ((r4.getD 0 d0).ll)]).bindR fun r5 =>
 Out.andThen ((r_laws_eqDefS [.sl ((r5.getD 0 d0).ll), .sl ((r3.getD 0 d0).ll)]).bindR fun r6 =>
 if (!((r6.getD 0 d0).bb)) = true then
 .norm [.sl ((a.getD 0 d0).ll), .sl ((r3.getD 0 d0).ll), .sl ((r3.getD 1 d0).ll), .sl ((r4.getD 0 d0).ll), .sl ((r5.getD 0 d0).ll), .sl ((r5.getD 1 d0).ll), .b true]
 else
 (r_laws_eqProblemS [.sl ((r5.getD 1 d0).ll), .sl ((r3.getD 1 d0).ll)]).bindR fun r7 =>
 .norm [.sl ((a.getD 0 d0).ll), .sl ((r3.getD 0 d0).ll), .sl ((r3.getD 1 d0).ll), .sl ((r4.getD 0 d0).ll), .sl ((r5.getD 0 d0).ll), .sl ((r5.getD 1 d0).ll), .b (!((r7.getD 0 d0).bb))]) fun v8 =>
 if (v8.getD 6 d0).bb = true then
 .ret [.b false]
 else
 (r_laws_toDefS [.sl ((v8.getD 0 d0).ll)]).bindR fun r9 =>
 (r_laws_eqDefS [.sl ((v8.getD 3 d0).ll), .sl ((r9.getD 0 d0).ll)]).bindR fun r10 =>
 if (!((r10.getD 0 d0).bb)) = true then
 .ret [.b false]
 else
 markM Out.fail (mkV mT mTab 23 [(v8.getD 3 d0).ll] (1 : Int)) 1 fun l11 k12 =>
 Out.andThen (if (decide (k12 < (0 : Int))) = true then
 .norm [.sl ((v8.getD 0 d0).ll), .sl ((v8.getD 1 d0).ll), .sl ((v8.getD 2 d0).ll), .sl ((v8.getD 4 d0).ll), .sl ((v8.getD 5 d0).ll), .b true]
 else
 (r_laws_eqDefS [.sl ((v8.getD 4 d0).ll), .sl ((v8.getD 1 d0).ll)]).bindR fun r13 =>
 if (!((r13.getD 0 d0).bb)) = true then
 .norm [.sl ((v8.getD 0 d0).ll), .sl ((v8.getD 1 d0).ll), .sl ((v8.getD 2 d0).ll), .sl ((v8.getD 4 d0).ll), .sl ((v8.getD 5 d0).ll), .b true]
 else
 (r_laws_eqProblemS [.sl ((v8.getD 5 d0).ll), .sl ((v8.getD 2 d0).ll)]).bindR fun r14 =>
 .norm [.sl ((v8.getD 0 d0).ll), .sl ((v8.getD 1 d0).ll), .sl ((v8.getD 2 d0).ll), .sl ((v8.getD 4 d0).ll), .sl ((v8.getD 5 d0).ll), .b (!((r14.getD 0 d0).bb))]) fun v15 =>
 if (v15.getD 5 d0).bb = true then
 .ret [.b false]
 else
 markM Out.fail (mkV mT mTab 23 [(v15.getD 3 d0).ll] (1 : Int)) 1 fun l16 k17 =>
 markM Out.fail (mkV mT mTab 24 [(v15.getD 4 d0).ll] k17) 1 fun l18 k19 =>
 (r_laws_heldDefS [.sl (l16.getD 0 []), .i (1 : Int)]).bindR fun r20 =>
 if (decide ((r20.getD 0 d0).ii < (0 : Int))) = true then
 .ret [.b false]
 else
 (r_laws_heldProblemS [.sl (l18.getD 0 []), .i ((r20.getD 0 d0).ii)]).bindR fun r21 =>
 if (decide ((r21.getD 0 d0).ii < (0 : Int))) = true then
 .ret [.b false]
 else
 if ((r21.getD 0 d0).ii != k19) = true then
 .ret [.b false]
 else
 (r_laws_toDefS [.sl ((v15.getD 0 d0).ll)]).bindR fun r22 =>
 (r_impl_Join [.sl ((r22.getD 0 d0).ll)]).bindR fun r23 =>
 Out.andThen ((r_laws_eqDefS [.sl ((r23.getD 0 d0).ll), .sl ((v15.getD 1 d0).ll)]).bindR fun r24 =>
 if (!((r24.getD 0 d0).bb)) = true then
 .norm [.sl (l16.getD 0 []), .sl (l18.getD 0 []), .i k19, .b true]
 else
 (r_laws_eqProblemS [.sl ((r23.getD 1 d0).ll), .sl ((v15.getD 2 d0).ll)]).bindR fun r25 =>
 .norm [.sl (l16.getD 0 []), .sl (l18.getD 0 []), .i k19, .b (!((r25.getD 0 d0).bb))]) fun v26 =>
 if (v26.getD 3 d0).bb = true then
 .ret [.b false]
 else
 (r_laws_heldDefS [.sl ((v26.getD 0 d0).ll), .i (1 : Int)]).bindR fun r27 =>
 if (decide ((r27.getD 0 d0).ii < (0 : Int))) = true then
 .ret [.b false]
 else
 (r_laws_heldProblemS [.sl ((v26.getD 1 d0).ll), .i ((r27.getD 0 d0).ii)]).bindR fun r28 =>
 if (decide ((r28.getD 0 d0).ii < (0 : Int))) = true then
 .ret [.b false]
 else
 if ((r28.getD 0 d0).ii != (v26.getD 2 d0).ii) = true then
 .ret [.b false]
 else
 .ret [.b true]
theorem eq_laws_FnExactJoin a : r_laws_FnExactJoin a = E_laws_FnExactJoin a := (Run_eq cfg 4 _ a).trans (by kernel_rfl)
noncomputable def E_laws_szDefSL1 : List DC → Out := fun v1 =>
 if (decide ((v1.getD 2 d0).ii < (((v1.getD 0 d0).ll).length : Int))) = true then
 Out.andThenB (if 79 = 79 ∧ 0 ≤ (v1.getD 2 d0).ii ∧ (v1.getD 2 d0).ii < (((v1.getD 0 d0).ll).length : Int) then
 (r_laws_szDef [.i (((((v1.getD 0 d0).ll).getD ((v1.getD 2 d0).ii).toNat []).getD 0 d0).ii), .b (((((v1.getD 0 d0).ll).getD ((v1.getD 2 d0).ii).toNat []).getD 1 d0).bb), .s (((((v1.getD 0 d0).ll).getD ((v1.getD 2 d0).ii).toNat []).getD 2 d0).ss), .s (((((v1.getD 0 d0).ll).getD ((v1.getD 2 d0).ii).toNat []).getD 3 d0).ss), .sl (((((v1.getD 0 d0).ll).getD ((v1.getD 2 d0).ii).toNat []).getD 4 d0).ll), .sl (((((v1.getD 0 d0).ll).getD ((v1.getD 2 d0).ii).toNat []).getD 5 d0).ll), .sl (((((v1.getD 0 d0).ll).getD ((v1.getD 2 d0).ii).toNat []).getD 6 d0).ll), .sl (((((v1.getD 0 d0).ll).getD ((v1.getD 2 d0).ii).toNat []).getD 7 d0).ll), .sl (((((v1.getD 0 d0).ll).getD ((v1.getD 2 d0).ii).toNat []).getD 8 d0).ll), .b (((((v1.getD 0 d0).ll).getD ((v1.getD 2 d0).ii).toNat []).getD 9 d0).bb), .sl (((((v1.getD 0 d0).ll).getD ((v1.getD 2 d0).ii).toNat []).getD 10 d0).ll), .i ((v1.getD 1 d0).ii)]).bindR fun r2 =>
 if (decide ((r2.getD 0 d0).ii < (0 : Int))) = true then
 .ret [.i (-1 : Int)]
 else
 .norm [.sl ((v1.getD 0 d0).ll), .i ((r2.getD 0 d0).ii), .i ((v1.getD 2 d0).ii)]
 else
 .fail) 1 fun v3 =>
 .norm [.sl ((v3.getD 0 d0).ll), .i ((v3.getD 1 d0).ii), .i (IntKind.i64.wrap ((v3.getD 2 d0).ii + (1 : Int)))]
 else
 .ex 0 [.i ((v1.getD 1 d0).ii)]
noncomputable def E_laws_szDefS (a : List DC) : Out :=
 if (decide ((IntKind.i64.wrap ((a.getD 1 d0).ii - (((a.getD 0 d0).ll).length : Int))) < (0 : Int))) = true then
 .ret [.i (-1 : Int)]
 else
 Out.andThenB (Loop E_laws_szDefSL1 [.sl ((a.getD 0 d0).ll), .i (IntKind.i64.wrap ((a.getD 1 d0).ii - (((a.getD 0 d0).ll).length : Int))), .i (0 : Int)]) 0 fun v4 =>
 .ret [.i ((v4.getD 0 d0).ii)]
theorem eq_laws_szDefS a : r_laws_szDefS a = E_laws_szDefS a := (Run_eq cfg 17 _ a).trans (by kernel_rfl)
noncomputable def E_laws_toDefSL1 : List DC → Out := fun v1 =>
 if (decide ((v1.getD 2 d0).ii < (((v1.getD 0 d0).ll).length : Int))) = true then
 Out.andThenB (if 79 = 79 ∧ 0 ≤ (v1.getD 2 d0).ii ∧ (v1.getD 2 d0).ii < (((v1.getD 0 d0).ll).length : Int) then
 (r_laws_toDef [.i (((((v1.getD 0 d0).ll).getD ((v1.getD 2 d0).ii).toNat []).getD 0 d0).ii), .b (((((v1.getD 0 d0).ll).getD ((v1.getD 2 d0).ii).toNat []).getD 1 d0).bb), .s (((((v1.getD 0 d0).ll).getD ((v1.getD 2 d0).ii).toNat []).getD 2 d0).ss), .s (((((v1.getD 0 d0).ll).getD ((v1.getD 2 d0).ii).toNat []).getD 3 d0).ss), .sl (((((v1.getD 0 d0).ll).getD ((v1.getD 2 d0).ii).toNat []).getD 4 d0).ll), .sl (((((v1.getD 0 d0).ll).getD ((v1.getD 2 d0).ii).toNat []).getD 5 d0).ll), .sl (((((v1.getD 0 d0).ll).getD ((v1.getD 2 d0).ii).toNat []).getD 6 d0).ll), .sl (((((v1.getD 0 d0).ll).getD ((v1.getD 2 d0).ii).toNat []).getD 7 d0).ll), .sl (((((v1.getD 0 d0).ll).getD ((v1.getD 2 d0).ii).toNat []).getD 8 d0).ll), .b (((((v1.getD 0 d0).ll).getD ((v1.getD 2 d0).ii).toNat []).getD 9 d0).bb), .sl (((((v1.getD 0 d0).ll).getD ((v1.getD 2 d0).ii).toNat []).getD 10 d0).ll)]).bindR fun r2 =>
 if 84 = 84 ∧ 0 ≤ (v1.getD 2 d0).ii ∧ (v1.getD 2 d0).ii < (((v1.getD 1 d0).ll).length : Int) then
 .norm [.sl ((v1.getD 0 d0).ll), .sl (((v1.getD 1 d0).ll).set (((v1.getD 2 d0).ii).toNat) (setRunD (((v1.getD 1 d0).ll).getD (((v1.getD 2 d0).ii).toNat) []) 0 [DC.i ((r2.getD 0 d0).ii), DC.b ((r2.getD 1 d0).bb), DC.s ((r2.getD 2 d0).ss), DC.s ((r2.getD 3 d0).ss), DC.sl ((r2.getD 4 d0).ll), DC.sl ((r2.getD 5 d0).ll), DC.sl ((r2.getD 6 d0).ll), DC.sl ((r2.getD 7 d0).ll), DC.sl ((r2.getD 8 d0).ll), DC.b ((r2.getD 9 d0).bb), DC.sl ((r2.getD 10 d0).ll)])), .i ((v1.getD 2 d0).ii)]
 else
 .fail
 else
 .fail) 1 fun v3 =>
 .norm [.sl ((v3.getD 0 d0).ll), .sl ((v3.getD 1 d0).ll), .i (IntKind.i64.wrap ((v3.getD 2 d0).ii + (1 : Int)))]
 else
 .ex 0 [.sl ((v1.getD 1 d0).ll)]
noncomputable def E_laws_toDefS (a : List DC) : Out :=
 if 0 ≤ (((a.getD 0 d0).ll).length : Int) ∧ (((a.getD 0 d0).ll).length : Int) < (LIM : Int) ∧ (((a.getD 0 d0).ll).length : Int) = (((a.getD 0 d0).ll).length : Int) ∧ 200 ≤ 1024 ∧ 0 < 11 ∧ dp 84 = false then
 Out.andThenB (Loop E_laws_toDefSL1 [.sl ((a.getD 0 d0).ll), .sl (List.replicate (((a.getD 0 d0).ll).length : Int).toNat [DC.i 0, DC.b false, DC.s [], DC.s [], DC.sl [], DC.sl [], DC.sl [], DC.sl [], DC.sl [], DC.b false, DC.sl []]), .i (0 : Int)]) 0 fun v4 =>
 .ret [.sl ((v4.getD 0 d0).ll)]
 else
 .fail
theorem eq_laws_toDefS a : r_laws_toDefS a = E_laws_toDefS a := (Run_eq cfg 19 _ a).trans (by kernel_rfl)
noncomputable def E_spec_JoinL1 : List DC → Out := fun v1 =>
 if (decide ((v1.getD 3 d0).ii < (((v1.getD 0 d0).ll).length : Int))) = true then
 Out.andThenB (if 84 = 84 ∧ 0 ≤ (v1.getD 3 d0).ii ∧ (v1.getD 3 d0).ii < (((v1.getD 0 d0).ll).length : Int) then
 if ((((v1.getD 0 d0).ll).getD ((v1.getD 3 d0).ii).toNat []).getD 1 d0).bb = true then
 .ex 1 [.sl ((v1.getD 0 d0).ll), .sl ((v1.getD 1 d0).ll), .sl ((v1.getD 2 d0).ll), .i ((v1.getD 3 d0).ii)]
 else
 (r_spec_l16Group [.i (((((v1.getD 0 d0).ll).getD ((v1.getD 3 d0).ii).toNat []).getD 0 d0).ii)]).bindR fun r2 =>
 (r_spec_l16At [.sl ((v1.getD 1 d0).ll), .i ((r2.getD 0 d0).ii), .s (((((v1.getD 0 d0).ll).getD ((v1.getD 3 d0).ii).toNat []).getD 3 d0).ss)]).bindR fun r3 =>
 if (decide ((r3.getD 0 d0).ii ≥ (0 : Int))) = true then
 if ((v1.getD 2 d0).ll).length + [[DC.i (2 : Int), DC.s (((((v1.getD 0 d0).ll).getD ((v1.getD 3 d0).ii).toNat []).getD 3 d0).ss), DC.s []]].length < LIM then
 .ex 1 [.sl ((v1.getD 0 d0).ll), .sl ((v1.getD 1 d0).ll), .sl (((v1.getD 2 d0).ll) ++ [[DC.i (2 : Int), DC.s (((((v1.getD 0 d0).ll).getD ((v1.getD 3 d0).ii).toNat []).getD 3 d0).ss), DC.s []]]), .i ((v1.getD 3 d0).ii)]
 else
 .fail
 else
 (r_spec_l13Copy [.i (((((v1.getD 0 d0).ll).getD ((v1.getD 3 d0).ii).toNat []).getD 0 d0).ii), .b (((((v1.getD 0 d0).ll).getD ((v1.getD 3 d0).ii).toNat []).getD 1 d0).bb), .s (((((v1.getD 0 d0).ll).getD ((v1.getD 3 d0).ii).toNat []).getD 2 d0).ss), .s (((((v1.getD 0 d0).ll).getD ((v1.getD 3 d0).ii).toNat []).getD 3 d0).ss), .sl (((((v1.getD 0 d0).ll).getD ((v1.getD 3 d0).ii).toNat []).getD 4 d0).ll), .sl (((((v1.getD 0 d0).ll).getD ((v1.getD 3 d0).ii).toNat []).getD 5 d0).ll), .sl (((((v1.getD 0 d0).ll).getD ((v1.getD 3 d0).ii).toNat []).getD 6 d0).ll), .sl (((((v1.getD 0 d0).ll).getD ((v1.getD 3 d0).ii).toNat []).getD 7 d0).ll), .sl (((((v1.getD 0 d0).ll).getD ((v1.getD 3 d0).ii).toNat []).getD 8 d0).ll), .b (((((v1.getD 0 d0).ll).getD ((v1.getD 3 d0).ii).toNat []).getD 9 d0).bb), .sl (((((v1.getD 0 d0).ll).getD ((v1.getD 3 d0).ii).toNat []).getD 10 d0).ll)]).bindR fun r4 =>
 if ((v1.getD 1 d0).ll).length + [[DC.i ((r4.getD 0 d0).ii), DC.b ((r4.getD 1 d0).bb), DC.s ((r4.getD 2 d0).ss), DC.s ((r4.getD 3 d0).ss), DC.sl ((r4.getD 4 d0).ll), DC.sl ((r4.getD 5 d0).ll), DC.sl ((r4.getD 6 d0).ll), DC.sl ((r4.getD 7 d0).ll), DC.sl ((r4.getD 8 d0).ll), DC.b ((r4.getD 9 d0).bb), DC.sl ((r4.getD 10 d0).ll)]].length < LIM ∧ 35 = 35 then
 .norm [.sl ((v1.getD 0 d0).ll), .sl (((v1.getD 1 d0).ll) ++ [[DC.i ((r4.getD 0 d0).ii), DC.b ((r4.getD 1 d0).bb), DC.s ((r4.getD 2 d0).ss), DC.s ((r4.getD 3 d0).ss), DC.sl ((r4.getD 4 d0).ll), DC.sl ((r4.getD 5 d0).ll), DC.sl ((r4.getD 6 d0).ll), DC.sl ((r4.getD 7 d0).ll), DC.sl ((r4.getD 8 d0).ll), DC.b ((r4.getD 9 d0).bb), DC.sl ((r4.getD 10 d0).ll)]]), .sl ((v1.getD 2 d0).ll), .i ((v1.getD 3 d0).ii)]
 else
 .fail
 else
 .fail) 1 fun v5 =>
 .norm [.sl ((v5.getD 0 d0).ll), .sl ((v5.getD 1 d0).ll), .sl ((v5.getD 2 d0).ll), .i (IntKind.i64.wrap ((v5.getD 3 d0).ii + (1 : Int)))]
 else
 .ex 0 [.sl ((v1.getD 0 d0).ll), .sl ((v1.getD 1 d0).ll), .sl ((v1.getD 2 d0).ll)]
noncomputable def E_spec_JoinL2 : List DC → Out := fun v7 =>
 if (decide ((v7.getD 3 d0).ii < (((v7.getD 0 d0).ll).length : Int))) = true then
 Out.andThenB (if 84 = 84 ∧ 0 ≤ (v7.getD 3 d0).ii ∧ (v7.getD 3 d0).ii < (((v7.getD 0 d0).ll).length : Int) then
 if (!(((((v7.getD 0 d0).ll).getD ((v7.getD 3 d0).ii).toNat []).getD 1 d0).bb)) = true then
 .ex 3 [.sl ((v7.getD 0 d0).ll), .sl ((v7.getD 1 d0).ll), .sl ((v7.getD 2 d0).ll), .i ((v7.getD 3 d0).ii)]
 else
 (r_spec_l16Group [.i (((((v7.getD 0 d0).ll).getD ((v7.getD 3 d0).ii).toNat []).getD 0 d0).ii)]).bindR fun r8 =>
 (r_spec_l16At [.sl ((v7.getD 1 d0).ll), .i ((r8.getD 0 d0).ii), .s (((((v7.getD 0 d0).ll).getD ((v7.getD 3 d0).ii).toNat []).getD 3 d0).ss)]).bindR fun r9 =>
 Out.andThenB (Out.andThen (if (decide ((r9.getD 0 d0).ii < (0 : Int))) = true then
 if ((v7.getD 2 d0).ll).length + [[DC.i (3 : Int), DC.s (((((v7.getD 0 d0).ll).getD ((v7.getD 3 d0).ii).toNat []).getD 3 d0).ss), DC.s []]].length < LIM then
 .norm [.sl ((v7.getD 0 d0).ll), .sl ((v7.getD 1 d0).ll), .sl (((v7.getD 2 d0).ll) ++ [[DC.i (3 : Int), DC.s (((((v7.getD 0 d0).ll).getD ((v7.getD 3 d0).ii).toNat []).getD 3 d0).ss), DC.s []]]), .i ((v7.getD 3 d0).ii)]
 else
 .fail
 else
 if 84 = 84 ∧ 0 ≤ (r9.getD 0 d0).ii ∧ (r9.getD 0 d0).ii < (((v7.getD 1 d0).ll).length : Int) then
 Out.andThen (if (((((v7.getD 1 d0).ll).getD ((r9.getD 0 d0).ii).toNat []).getD 0 d0).ii != ((((v7.getD 0 d0).ll).getD ((v7.getD 3 d0).ii).toNat []).getD 0 d0).ii) = true then
 if ((v7.getD 2 d0).ll).length + [[DC.i (4 : Int), DC.s (((((v7.getD 0 d0).ll).getD ((v7.getD 3 d0).ii).toNat []).getD 3 d0).ss), DC.s []]].length < LIM then
 .norm [.sl ((v7.getD 0 d0).ll), .sl ((v7.getD 1 d0).ll), .sl (((v7.getD 2 d0).ll) ++ [[DC.i (4 : Int), DC.s (((((v7.getD 0 d0).ll).getD ((v7.getD 3 d0).ii).toNat []).getD 3 d0).ss), DC.s []]]), .i ((v7.getD 3 d0).ii)]
 else
 .fail
 else
 if 84 = 84 ∧ 0 ≤ (r9.getD 0 d0).ii ∧ (r9.getD 0 d0).ii < (((v7.getD 1 d0).ll).length : Int) then
 (r_spec_Added [.i (((((v7.getD 1 d0).ll).getD ((r9.getD 0 d0).ii).toNat []).getD 0 d0).ii), .b (((((v7.getD 1 d0).ll).getD ((r9.getD 0 d0).ii).toNat []).getD 1 d0).bb), .s (((((v7.getD 1 d0).ll).getD ((r9.getD 0 d0).ii).toNat []).getD 2 d0).ss), .s (((((v7.getD 1 d0).ll).getD ((r9.getD 0 d0).ii).toNat []).getD 3 d0).ss), .sl (((((v7.getD 1 d0).ll).getD ((r9.getD 0 d0).ii).toNat []).getD 4 d0).ll), .sl (((((v7.getD 1 d0).ll).getD ((r9.getD 0 d0).ii).toNat []).getD 5 d0).ll), .sl (((((v7.getD 1 d0).ll).getD ((r9.getD 0 d0).ii).toNat []).getD 6 d0).ll), .sl (((((v7.getD 1 d0).ll).getD ((r9.getD 0 d0).ii).toNat []).getD 7 d0).ll), .sl (((((v7.getD 1 d0).ll).getD ((r9.getD 0 d0).ii).toNat []).getD 8 d0).ll), .b (((((v7.getD 1 d0).ll).getD ((r9.getD 0 d0).ii).toNat []).getD 9 d0).bb), .sl (((((v7.getD 1 d0).ll).getD ((r9.getD 0 d0).ii).toNat []).getD 10 d0).ll), .i (((((v7.getD 0 d0).ll).getD ((v7.getD 3 d0).ii).toNat []).getD 0 d0).ii), .b (((((v7.getD 0 d0).ll).getD ((v7.getD 3 d0).ii).toNat []).getD 1 d0).bb), .s (((((v7.getD 0 d0).ll).getD ((v7.getD 3 d0).ii).toNat []).getD 2 d0).ss), .s (((((v7.getD 0 d0).ll).getD ((v7.getD 3 d0).ii).toNat []).getD 3 d0).ss), .sl (((((v7.getD 0 d0).ll).getD ((v7.getD 3 d0).ii).toNat []).getD 4 d0).ll), .sl (((((v7.getD 0 d0).ll).getD ((v7.getD 3 d0).ii).toNat []).getD 5 d0).ll), .sl (((((v7.getD 0 d0).ll).getD ((v7.getD 3 d0).ii).toNat []).getD 6 d0).ll), .sl (((((v7.getD 0 d0).ll).getD ((v7.getD 3 d0).ii).toNat []).getD 7 d0).ll), .sl (((((v7.getD 0 d0).ll).getD ((v7.getD 3 d0).ii).toNat []).getD 8 d0).ll), .b (((((v7.getD 0 d0).ll).getD ((v7.getD 3 d0).ii).toNat []).getD 9 d0).bb), .sl (((((v7.getD 0 d0).ll).getD ((v7.getD 3 d0).ii).toNat []).getD 10 d0).ll)]).bindR fun r10 =>
 if 84 = 84 ∧ 0 ≤ (r9.getD 0 d0).ii ∧ (r9.getD 0 d0).ii < (((v7.getD 1 d0).ll).length : Int) then
 if 1084 = 1084 ∧ (((r9.getD 0 d0).ii).toNat) = (((r9.getD 0 d0).ii).toNat) ∧ 0 = 0 ∧ 11 = 11 then
 .norm [.sl ((v7.getD 0 d0).ll), .sl (((v7.getD 1 d0).ll).set (((r9.getD 0 d0).ii).toNat) [DC.i ((r10.getD 0 d0).ii), DC.b ((r10.getD 1 d0).bb), DC.s ((r10.getD 2 d0).ss), DC.s ((r10.getD 3 d0).ss), DC.sl ((r10.getD 4 d0).ll), DC.sl ((r10.getD 5 d0).ll), DC.sl ((r10.getD 6 d0).ll), DC.sl ((r10.getD 7 d0).ll), DC.sl ((r10.getD 8 d0).ll), DC.b ((r10.getD 9 d0).bb), DC.sl ((r10.getD 10 d0).ll)]), .sl ((v7.getD 2 d0).ll), .i ((v7.getD 3 d0).ii)]
 else
 .fail
 else
 .fail
 else
 .fail) fun v11 =>
 .norm [.sl ((v11.getD 0 d0).ll), .sl ((v11.getD 1 d0).ll), .sl ((v11.getD 2 d0).ll), .i ((v11.getD 3 d0).ii)]
 else
 .fail) fun v12 =>
 .norm [.sl ((v12.getD 0 d0).ll), .sl ((v12.getD 1 d0).ll), .sl ((v12.getD 2 d0).ll), .i ((v12.getD 3 d0).ii)]) 4 fun v13 =>
 .norm [.sl ((v13.getD 0 d0).ll), .sl ((v13.getD 1 d0).ll), .sl ((v13.getD 2 d0).ll), .i ((v13.getD 3 d0).ii)]
 else
 .fail) 3 fun v14 =>
 .norm [.sl ((v14.getD 0 d0).ll), .sl ((v14.getD 1 d0).ll), .sl ((v14.getD 2 d0).ll), .i (IntKind.i64.wrap ((v14.getD 3 d0).ii + (1 : Int)))]
 else
 .ex 2 [.sl ((v7.getD 1 d0).ll), .sl ((v7.getD 2 d0).ll)]
noncomputable def E_spec_Join (a : List DC) : Out :=
 if (decide ((((a.getD 0 d0).ll).length : Int) > (60 : Int))) = true then
 if ([] : List (List DC)).length + [[DC.i (5 : Int), DC.s [], DC.s []]].length < LIM then
 .ret [.sl [], .sl (([] : List (List DC)) ++ [[DC.i (5 : Int), DC.s [], DC.s []]])]
 else
 .fail
 else
 Out.andThenB (Loop E_spec_JoinL1 [.sl ((a.getD 0 d0).ll), .sl [], .sl [], .i (0 : Int)]) 0 fun v6 =>
 Out.andThenB (Loop E_spec_JoinL2 [.sl ((v6.getD 0 d0).ll), .sl ((v6.getD 1 d0).ll), .sl ((v6.getD 2 d0).ll), .i (0 : Int)]) 2 fun v15 =>
 .ret [.sl ((v15.getD 0 d0).ll), .sl ((v15.getD 1 d0).ll)]
theorem eq_spec_Join a : r_spec_Join a = E_spec_Join a := (Run_eq cfg 18 _ a).trans (by kernel_rfl)
noncomputable def E_impl_JoinL1 : List DC → Out := fun v1 =>
 if (decide ((v1.getD 5 d0).ii < (v1.getD 4 d0).ii)) = true then
 Out.andThenB (if 84 = 84 ∧ 0 ≤ (v1.getD 5 d0).ii ∧ (v1.getD 5 d0).ii < (((v1.getD 3 d0).ll).length : Int) then
 Out.andThenB (Out.andThen (if ((((v1.getD 3 d0).ll).getD ((v1.getD 5 d0).ii).toNat []).getD 1 d0).bb = true then
 .norm [.sl ((v1.getD 0 d0).ll), .sl ((v1.getD 1 d0).ll), .sl ((v1.getD 2 d0).ll), .sl ((v1.getD 3 d0).ll), .i ((v1.getD 4 d0).ii), .i ((v1.getD 5 d0).ii)]
 else
 if ((v1.getD 1 d0).ll).length < LIM then
 Out.andThen (if (((v1.getD 1 d0).ll).any (fun x => alkP x [DC.i (((((v1.getD 3 d0).ll).getD ((v1.getD 5 d0).ii).toNat []).getD 0 d0).ii), DC.b (((((v1.getD 3 d0).ll).getD ((v1.getD 5 d0).ii).toNat []).getD 1 d0).bb), DC.s (((((v1.getD 3 d0).ll).getD ((v1.getD 5 d0).ii).toNat []).getD 2 d0).ss), DC.s (((((v1.getD 3 d0).ll).getD ((v1.getD 5 d0).ii).toNat []).getD 3 d0).ss), DC.sl (((((v1.getD 3 d0).ll).getD ((v1.getD 5 d0).ii).toNat []).getD 4 d0).ll), DC.sl (((((v1.getD 3 d0).ll).getD ((v1.getD 5 d0).ii).toNat []).getD 5 d0).ll), DC.sl (((((v1.getD 3 d0).ll).getD ((v1.getD 5 d0).ii).toNat []).getD 6 d0).ll), DC.sl (((((v1.getD 3 d0).ll).getD ((v1.getD 5 d0).ii).toNat []).getD 7 d0).ll), DC.sl (((((v1.getD 3 d0).ll).getD ((v1.getD 5 d0).ii).toNat []).getD 8 d0).ll), DC.b (((((v1.getD 3 d0).ll).getD ((v1.getD 5 d0).ii).toNat []).getD 9 d0).bb), DC.sl (((((v1.getD 3 d0).ll).getD ((v1.getD 5 d0).ii).toNat []).getD 10 d0).ll)])) = true then
 if ((v1.getD 2 d0).ll).length + [[DC.i (2 : Int), DC.s (((((v1.getD 3 d0).ll).getD ((v1.getD 5 d0).ii).toNat []).getD 3 d0).ss), DC.s []]].length < LIM then
 .norm [.sl ((v1.getD 0 d0).ll), .sl ((v1.getD 1 d0).ll), .sl (((v1.getD 2 d0).ll) ++ [[DC.i (2 : Int), DC.s (((((v1.getD 3 d0).ll).getD ((v1.getD 5 d0).ii).toNat []).getD 3 d0).ss), DC.s []]]), .sl ((v1.getD 3 d0).ll), .i ((v1.getD 4 d0).ii), .i ((v1.getD 5 d0).ii)]
 else
 .fail
 else
 (r_impl_cloneDef [.i (((((v1.getD 3 d0).ll).getD ((v1.getD 5 d0).ii).toNat []).getD 0 d0).ii), .b (((((v1.getD 3 d0).ll).getD ((v1.getD 5 d0).ii).toNat []).getD 1 d0).bb), .s (((((v1.getD 3 d0).ll).getD ((v1.getD 5 d0).ii).toNat []).getD 2 d0).ss), .s (((((v1.getD 3 d0).ll).getD ((v1.getD 5 d0).ii).toNat []).getD 3 d0).ss), .sl (((((v1.getD 3 d0).ll).getD ((v1.getD 5 d0).ii).toNat []).getD 4 d0).ll), .sl (((((v1.getD 3 d0).ll).getD ((v1.getD 5 d0).ii).toNat []).getD 5 d0).ll), .sl (((((v1.getD 3 d0).ll).getD ((v1.getD 5 d0).ii).toNat []).getD 6 d0).ll), .sl (((((v1.getD 3 d0).ll).getD ((v1.getD 5 d0).ii).toNat []).getD 7 d0).ll), .sl (((((v1.getD 3 d0).ll).getD ((v1.getD 5 d0).ii).toNat []).getD 8 d0).ll), .b (((((v1.getD 3 d0).ll).getD ((v1.getD 5 d0).ii).toNat []).getD 9 d0).bb), .sl (((((v1.getD 3 d0).ll).getD ((v1.getD 5 d0).ii).toNat []).getD 10 d0).ll)]).bindR fun r2 =>
 if ((v1.getD 1 d0).ll).length + [[DC.i ((r2.getD 0 d0).ii), DC.b ((r2.getD 1 d0).bb), DC.s ((r2.getD 2 d0).ss), DC.s ((r2.getD 3 d0).ss), DC.sl ((r2.getD 4 d0).ll), DC.sl ((r2.getD 5 d0).ll), DC.sl ((r2.getD 6 d0).ll), DC.sl ((r2.getD 7 d0).ll), DC.sl ((r2.getD 8 d0).ll), DC.b ((r2.getD 9 d0).bb), DC.sl ((r2.getD 10 d0).ll)]].length < LIM ∧ 35 = 35 then
 .norm [.sl ((v1.getD 0 d0).ll), .sl (((v1.getD 1 d0).ll) ++ [[DC.i ((r2.getD 0 d0).ii), DC.b ((r2.getD 1 d0).bb), DC.s ((r2.getD 2 d0).ss), DC.s ((r2.getD 3 d0).ss), DC.sl ((r2.getD 4 d0).ll), DC.sl ((r2.getD 5 d0).ll), DC.sl ((r2.getD 6 d0).ll), DC.sl ((r2.getD 7 d0).ll), DC.sl ((r2.getD 8 d0).ll), DC.b ((r2.getD 9 d0).bb), DC.sl ((r2.getD 10 d0).ll)]]), .sl ((v1.getD 2 d0).ll), .sl ((v1.getD 3 d0).ll), .i ((v1.getD 4 d0).ii), .i ((v1.getD 5 d0).ii)]
 else
 .fail) fun v3 =>
 .norm [.sl ((v3.getD 0 d0).ll), .sl ((v3.getD 1 d0).ll), .sl ((v3.getD 2 d0).ll), .sl ((v3.getD 3 d0).ll), .i ((v3.getD 4 d0).ii), .i ((v3.getD 5 d0).ii)]
 else
 .fail) fun v4 =>
 .norm [.sl ((v4.getD 0 d0).ll), .sl ((v4.getD 1 d0).ll), .sl ((v4.getD 2 d0).ll), .sl ((v4.getD 3 d0).ll), .i ((v4.getD 4 d0).ii), .i ((v4.getD 5 d0).ii)]) 2 fun v5 =>
 .norm [.sl ((v5.getD 0 d0).ll), .sl ((v5.getD 1 d0).ll), .sl ((v5.getD 2 d0).ll), .sl ((v5.getD 3 d0).ll), .i ((v5.getD 4 d0).ii), .i ((v5.getD 5 d0).ii)]
 else
 .fail) 1 fun v6 =>
 .norm [.sl ((v6.getD 0 d0).ll), .sl ((v6.getD 1 d0).ll), .sl ((v6.getD 2 d0).ll), .sl ((v6.getD 3 d0).ll), .i ((v6.getD 4 d0).ii), .i (IntKind.i64.wrap ((v6.getD 5 d0).ii + (1 : Int)))]
 else
 .ex 0 [.sl ((v1.getD 0 d0).ll), .sl ((v1.getD 1 d0).ll), .sl ((v1.getD 2 d0).ll)]
noncomputable def E_impl_JoinL2 : List DC → Out := fun v8 =>
 if (decide ((v8.getD 4 d0).ii < (v8.getD 3 d0).ii)) = true then
 Out.andThenB (if 84 = 84 ∧ 0 ≤ (v8.getD 4 d0).ii ∧ (v8.getD 4 d0).ii < (((v8.getD 2 d0).ll).length : Int) then
 if (!(((((v8.getD 2 d0).ll).getD ((v8.getD 4 d0).ii).toNat []).getD 1 d0).bb)) = true then
 .ex 4 [.sl ((v8.getD 0 d0).ll), .sl ((v8.getD 1 d0).ll), .sl ((v8.getD 2 d0).ll), .i ((v8.getD 3 d0).ii), .i ((v8.getD 4 d0).ii)]
 else
 if ((v8.getD 0 d0).ll).length < LIM then
 Out.andThenB (Out.andThen (if (decide ((idxP (fun x => alkP x [DC.i (((((v8.getD 2 d0).ll).getD ((v8.getD 4 d0).ii).toNat []).getD 0 d0).ii), DC.b (((((v8.getD 2 d0).ll).getD ((v8.getD 4 d0).ii).toNat []).getD 1 d0).bb), DC.s (((((v8.getD 2 d0).ll).getD ((v8.getD 4 d0).ii).toNat []).getD 2 d0).ss), DC.s (((((v8.getD 2 d0).ll).getD ((v8.getD 4 d0).ii).toNat []).getD 3 d0).ss), DC.sl (((((v8.getD 2 d0).ll).getD ((v8.getD 4 d0).ii).toNat []).getD 4 d0).ll), DC.sl (((((v8.getD 2 d0).ll).getD ((v8.getD 4 d0).ii).toNat []).getD 5 d0).ll), DC.sl (((((v8.getD 2 d0).ll).getD ((v8.getD 4 d0).ii).toNat []).getD 6 d0).ll), DC.sl (((((v8.getD 2 d0).ll).getD ((v8.getD 4 d0).ii).toNat []).getD 7 d0).ll), DC.sl (((((v8.getD 2 d0).ll).getD ((v8.getD 4 d0).ii).toNat []).getD 8 d0).ll), DC.b (((((v8.getD 2 d0).ll).getD ((v8.getD 4 d0).ii).toNat []).getD 9 d0).bb), DC.sl (((((v8.getD 2 d0).ll).getD ((v8.getD 4 d0).ii).toNat []).getD 10 d0).ll)]) ((v8.getD 0 d0).ll)) < (0 : Int))) = true then
 if ((v8.getD 1 d0).ll).length + [[DC.i (3 : Int), DC.s (((((v8.getD 2 d0).ll).getD ((v8.getD 4 d0).ii).toNat []).getD 3 d0).ss), DC.s []]].length < LIM then
 .norm [.sl ((v8.getD 0 d0).ll), .sl (((v8.getD 1 d0).ll) ++ [[DC.i (3 : Int), DC.s (((((v8.getD 2 d0).ll).getD ((v8.getD 4 d0).ii).toNat []).getD 3 d0).ss), DC.s []]]), .sl ((v8.getD 2 d0).ll), .i ((v8.getD 3 d0).ii), .i ((v8.getD 4 d0).ii)]
 else
 .fail
 else
 if 84 = 84 ∧ 0 ≤ (idxP (fun x => alkP x [DC.i (((((v8.getD 2 d0).ll).getD ((v8.getD 4 d0).ii).toNat []).getD 0 d0).ii), DC.b (((((v8.getD 2 d0).ll).getD ((v8.getD 4 d0).ii).toNat []).getD 1 d0).bb), DC.s (((((v8.getD 2 d0).ll).getD ((v8.getD 4 d0).ii).toNat []).getD 2 d0).ss), DC.s (((((v8.getD 2 d0).ll).getD ((v8.getD 4 d0).ii).toNat []).getD 3 d0).ss), DC.sl (((((v8.getD 2 d0).ll).getD ((v8.getD 4 d0).ii).toNat []).getD 4 d0).ll), DC.sl (((((v8.getD 2 d0).ll).getD ((v8.getD 4 d0).ii).toNat []).getD 5 d0).ll), DC.sl (((((v8.getD 2 d0).ll).getD ((v8.getD 4 d0).ii).toNat []).getD 6 d0).ll), DC.sl (((((v8.getD 2 d0).ll).getD ((v8.getD 4 d0).ii).toNat []).getD 7 d0).ll), DC.sl (((((v8.getD 2 d0).ll).getD ((v8.getD 4 d0).ii).toNat []).getD 8 d0).ll), DC.b (((((v8.getD 2 d0).ll).getD ((v8.getD 4 d0).ii).toNat []).getD 9 d0).bb), DC.sl (((((v8.getD 2 d0).ll).getD ((v8.getD 4 d0).ii).toNat []).getD 10 d0).ll)]) ((v8.getD 0 d0).ll)) ∧ (idxP (fun x => alkP x [DC.i (((((v8.getD 2 d0).ll).getD ((v8.getD 4 d0).ii).toNat []).getD 0 d0).ii), DC.b (((((v8.getD 2 d0).ll).getD ((v8.getD 4 d0).ii).toNat []).getD 1 d0).bb), DC.s (((((v8.getD 2 d0).ll).getD ((v8.getD 4 d0).ii).toNat []).getD 2 d0).ss), DC.s (((((v8.getD 2 d0).ll).getD ((v8.getD 4 d0).ii).toNat []).getD 3 d0).ss), DC.sl (((((v8.getD 2 d0).ll).getD ((v8.getD 4 d0).ii).toNat []).getD 4 d0).ll), DC.sl (((((v8.getD 2 d0).ll).getD ((v8.getD 4 d0).ii).toNat []).getD 5 d0).ll), DC.sl (((((v8.getD 2 d0).ll).getD ((v8.getD 4 d0).ii).toNat []).getD 6 d0).ll), DC.sl (((((v8.getD 2 d0).ll).getD ((v8.getD 4 d0).ii).toNat []).getD 7 d0).ll), DC.sl (((((v8.getD 2 d0).ll).getD ((v8.getD 4 d0).ii).toNat []).getD 8 d0).ll), DC.b (((((v8.getD 2 d0).ll).getD ((v8.getD 4 d0).ii).toNat []).getD 9 d0).bb), DC.sl (((((v8.getD 2 d0).ll).getD ((v8.getD 4 d0).ii).toNat []).getD 10 d0).ll)]) ((v8.getD 0 d0).ll)) < (((v8.getD 0 d0).ll).length : Int) then
 Out.andThen (if (((((v8.getD 0 d0).ll).getD (idxP (fun x => alkP x [DC.i (((((v8.getD 2 d0).ll).getD ((v8.getD 4 d0).ii).toNat []).getD 0 d0).ii), DC.b (((((v8.getD 2 d0).ll).getD ((v8.getD 4 d0).ii).toNat []).getD 1 d0).bb), DC.s (((((v8.getD 2 d0).ll).getD ((v8.getD 4 d0).ii).toNat []).getD 2 d0).ss), DC.s (((((v8.getD 2 d0).ll).getD ((v8.getD 4 d0).ii).toNat []).getD 3 d0).ss), DC.sl (((((v8.getD 2 d0).ll).getD ((v8.getD 4 d0).ii).toNat []).getD 4 d0).ll), DC.sl (((((v8.getD 2 d0).ll).getD ((v8.getD 4 d0).ii).toNat []).getD 5 d0).ll), DC.sl (((((v8.getD 2 d0).ll).getD ((v8.getD 4 d0).ii).toNat []).getD 6 d0).ll), DC.sl (((((v8.getD 2 d0).ll).getD ((v8.getD 4 d0).ii).toNat []).getD 7 d0).ll), DC.sl (((((v8.getD 2 d0).ll).getD ((v8.getD 4 d0).ii).toNat []).getD 8 d0).ll), DC.b (((((v8.getD 2 d0).ll).getD ((v8.getD 4 d0).ii).toNat []).getD 9 d0).bb), DC.sl (((((v8.getD 2 d0).ll).getD ((v8.getD 4 d0).ii).toNat []).getD 10 d0).ll)]) ((v8.getD 0 d0).ll)).toNat []).getD 0 d0).ii != ((((v8.getD 2 d0).ll).getD ((v8.getD 4 d0).ii).toNat []).getD 0 d0).ii) = true then
 if ((v8.getD 1 d0).ll).length + [[DC.i (4 : Int), DC.s (((((v8.getD 2 d0).ll).getD ((v8.getD 4 d0).ii).toNat []).getD 3 d0).ss), DC.s []]].length < LIM then
 .norm [.sl ((v8.getD 0 d0).ll), .sl (((v8.getD 1 d0).ll) ++ [[DC.i (4 : Int), DC.s (((((v8.getD 2 d0).ll).getD ((v8.getD 4 d0).ii).toNat []).getD 3 d0).ss), DC.s []]]), .sl ((v8.getD 2 d0).ll), .i ((v8.getD 3 d0).ii), .i ((v8.getD 4 d0).ii)]
 else
 .fail
 else
 if 84 = 84 ∧ 0 ≤ (idxP (fun x => alkP x [DC.i (((((v8.getD 2 d0).ll).getD ((v8.getD 4 d0).ii).toNat []).getD 0 d0).ii), DC.b (((((v8.getD 2 d0).ll).getD ((v8.getD 4 d0).ii).toNat []).getD 1 d0).bb), DC.s (((((v8.getD 2 d0).ll).getD ((v8.getD 4 d0).ii).toNat []).getD 2 d0).ss), DC.s (((((v8.getD 2 d0).ll).getD ((v8.getD 4 d0).ii).toNat []).getD 3 d0).ss), DC.sl (((((v8.getD 2 d0).ll).getD ((v8.getD 4 d0).ii).toNat []).getD 4 d0).ll), DC.sl (((((v8.getD 2 d0).ll).getD ((v8.getD 4 d0).ii).toNat []).getD 5 d0).ll), DC.sl (((((v8.getD 2 d0).ll).getD ((v8.getD 4 d0).ii).toNat []).getD 6 d0).ll), DC.sl (((((v8.getD 2 d0).ll).getD ((v8.getD 4 d0).ii).toNat []).getD 7 d0).ll), DC.sl (((((v8.getD 2 d0).ll).getD ((v8.getD 4 d0).ii).toNat []).getD 8 d0).ll), DC.b (((((v8.getD 2 d0).ll).getD ((v8.getD 4 d0).ii).toNat []).getD 9 d0).bb), DC.sl (((((v8.getD 2 d0).ll).getD ((v8.getD 4 d0).ii).toNat []).getD 10 d0).ll)]) ((v8.getD 0 d0).ll)) ∧ (idxP (fun x => alkP x [DC.i (((((v8.getD 2 d0).ll).getD ((v8.getD 4 d0).ii).toNat []).getD 0 d0).ii), DC.b (((((v8.getD 2 d0).ll).getD ((v8.getD 4 d0).ii).toNat []).getD 1 d0).bb), DC.s (((((v8.getD 2 d0).ll).getD ((v8.getD 4 d0).ii).toNat []).getD 2 d0).ss), DC.s (((((v8.getD 2 d0).ll).getD ((v8.getD 4 d0).ii).toNat []).getD 3 d0).ss), DC.sl (((((v8.getD 2 d0).ll).getD ((v8.getD 4 d0).ii).toNat []).getD 4 d0).ll), DC.sl (((((v8.getD 2 d0).ll).getD ((v8.getD 4 d0).ii).toNat []).getD 5 d0).ll), DC.sl (((((v8.getD 2 d0).ll).getD ((v8.getD 4 d0).ii).toNat []).getD 6 d0).ll), DC.sl (((((v8.getD 2 d0).ll).getD ((v8.getD 4 d0).ii).toNat []).getD 7 d0).ll), DC.sl (((((v8.getD 2 d0).ll).getD ((v8.getD 4 d0).ii).toNat []).getD 8 d0).ll), DC.b (((((v8.getD 2 d0).ll).getD ((v8.getD 4 d0).ii).toNat []).getD 9 d0).bb), DC.sl (((((v8.getD 2 d0).ll).getD ((v8.getD 4 d0).ii).toNat []).getD 10 d0).ll)]) ((v8.getD 0 d0).ll)) < (((v8.getD 0 d0).ll).length : Int) then
 (r_impl_Added [.i (((((v8.getD 0 d0).ll).getD (idxP (fun x => alkP x [DC.i (((((v8.getD 2 d0).ll).getD ((v8.getD 4 d0).ii).toNat []).getD 0 d0).ii), DC.b (((((v8.getD 2 d0).ll).getD ((v8.getD 4 d0).ii).toNat []).getD 1 d0).bb), DC.s (((((v8.getD 2 d0).ll).getD ((v8.getD 4 d0).ii).toNat []).getD 2 d0).ss), DC.s (((((v8.getD 2 d0).ll).getD ((v8.getD 4 d0).ii).toNat []).getD 3 d0).ss), DC.sl (((((v8.getD 2 d0).ll).getD ((v8.getD 4 d0).ii).toNat []).getD 4 d0).ll), DC.sl (((((v8.getD 2 d0).ll).getD ((v8.getD 4 d0).ii).toNat []).getD 5 d0).ll), DC.sl (((((v8.getD 2 d0).ll).getD ((v8.getD 4 d0).ii).toNat []).getD 6 d0).ll), DC.sl (((((v8.getD 2 d0).ll).getD ((v8.getD 4 d0).ii).toNat []).getD 7 d0).ll), DC.sl (((((v8.getD 2 d0).ll).getD ((v8.getD 4 d0).ii).toNat []).getD 8 d0).ll), DC.b (((((v8.getD 2 d0).ll).getD ((v8.getD 4 d0).ii).toNat []).getD 9 d0).bb), DC.sl (((((v8.getD 2 d0).ll).getD ((v8.getD 4 d0).ii).toNat []).getD 10 d0).ll)]) ((v8.getD 0 d0).ll)).toNat []).getD 0 d0).ii), .b (((((v8.getD 0 d0).ll).getD (idxP (fun x => alkP x [DC.i (((((v8.getD 2 d0).ll).getD ((v8.getD 4 d0).ii).toNat []).getD 0 d0).ii), DC.b (((((v8.getD 2 d0).ll).getD ((v8.getD 4 d0).ii).toNat []).getD 1 d0).bb), DC.s (((((v8.getD 2 d0).ll).getD ((v8.getD 4 d0).ii).toNat []).getD 2 d0).ss), DC.s (((((v8.getD 2 d0).ll).getD ((v8.getD 4 d0).ii).toNat []).getD 3 d0).ss), DC.sl (((((v8.getD 2 d0).ll).getD ((v8.getD 4 d0).ii).toNat []).getD 4 d0).ll), DC.sl (((((v8.getD 2 d0).ll).getD ((v8.getD 4 d0).ii).toNat []).getD 5 d0).ll), DC.sl (((((v8.getD 2 d0).ll).getD ((v8.getD 4 d0).ii).toNat []).getD 6 d0).ll), DC.sl (((((v8.getD 2 d0).ll).getD ((v8.getD 4 d0).ii).toNat []).getD 7 d0).ll), DC.sl (((((v8.getD 2 d0).ll).getD ((v8.getD 4 d0).ii).toNat []).getD 8 d0).ll), DC.b (((((v8.getD 2 d0).ll).getD ((v8.getD 4 d0).ii).toNat []).getD 9 d0).bb), DC.sl (((((v8.getD 2 d0).ll).getD ((v8.getD 4 d0).ii).toNat []).getD 10 d0).ll)]) ((v8.getD 0 d0).ll)).toNat []).getD 1 d0).bb), .s (((((v8.getD 0 d0).ll).getD (idxP (fun x => alkP x [DC.i (((((v8.getD 2 d0).ll).getD ((v8.getD 4 d0).ii).toNat []).getD 0 d0).ii), DC.b (((((v8.getD 2 d0).ll).getD ((v8.getD 4 d0).ii).toNat []).getD 1 d0).bb), DC.s (((((v8.getD 2 d0).ll).getD ((v8.getD 4 d0).ii).toNat []).getD 2 d0).ss), DC.s (((((v8.getD 2 d0).ll).getD ((v8.getD 4 d0).ii).toNat []).getD 3 d0).ss), DC.sl (((((v8.getD 2 d0).ll).getD ((v8.getD 4 d0).ii).toNat []).getD 4 d0).ll), DC.sl (((((v8.getD 2 d0).ll).getD ((v8.getD 4 d0).ii).toNat []).getD 5 d0).ll), DC.sl (((((v8.getD 2 d0).ll).getD ((v8.getD 4 d0).ii).toNat []).getD 6 d0).ll), DC.sl (((((v8.getD 2 d0).ll).getD ((v8.getD 4 d0).ii).toNat []).getD 7 d0).ll), DC.sl (((((v8.getD 2 d0).ll).getD ((v8.getD 4 d0).ii).toNat []).getD 8 d0).ll), DC.b (((((v8.getD 2 d0).ll).getD ((v8.getD 4 d0).ii).toNat []).getD 9 d0).bb), DC.sl (((((v8.getD 2 d0).ll).getD ((v8.getD 4 d0).ii).toNat []).getD 10 d0).ll)]) ((v8.getD 0 d0).ll)).toNat []).getD 2 d0).ss), .s (((((v8.getD 0 d0).ll).getD (idxP (fun x => alkP x [DC.i (((((v8.getD 2 d0).ll).getD ((v8.getD 4 d0).ii).toNat []).getD 0 d0).ii), DC.b (((((v8.getD 2 d0).ll).getD ((v8.getD 4 d0).ii).toNat []).getD 1 d0).bb), DC.s (((((v8.getD 2 d0).ll).getD ((v8.getD 4 d0).ii).toNat []).getD 2 d0).ss), DC.s (((((v8.getD 2 d0).ll).getD ((v8.getD 4 d0).ii).toNat []).getD 3 d0).ss), DC.sl (((((v8.getD 2 d0).ll).getD ((v8.getD 4 d0).ii).toNat []).getD 4 d0).ll), DC.sl (((((v8.getD 2 d0).ll).getD ((v8.getD 4 d0).ii).toNat []).getD 5 d0).ll), DC.sl (((((v8.getD 2 d0).ll).getD ((v8.getD 4 d0).ii).toNat []).getD 6 d0).ll), DC.sl (((((v8.getD 2 d0).ll).getD ((v8.getD 4 d0).ii).toNat []).getD 7 d0).ll), DC.sl (((((v8.getD 2 d0).ll).getD ((v8.getD 4 d0).ii).toNat []).getD 8 d0).ll), DC.b (((((v8.getD 2 d0).ll).getD ((v8.getD 4 d0).ii).toNat []).getD 9 d0).bb), DC.sl (((((v8.getD 2 d0).ll).getD ((v8.getD 4 d0).ii).toNat []).getD 10 d0).ll)]) ((v8.getD 0 d0).ll)).toNat []).getD 3 d0).ss), .sl (((((v8.getD 0 d0).ll).getD (idxP (fun x => alkP x [DC.i (((((v8.getD 2 d0).ll).getD ((v8.getD 4 d0).ii).toNat []).getD 0 d0).ii), DC.b (((((v8.getD 2 d0).ll).getD ((v8.getD 4 d0).ii).toNat []).getD 1 d0).bb), DC.s (((((v8.getD 2 d0).ll).getD ((v8.getD 4 d0).ii).toNat []).getD 2 d0).ss), DC.s (((((v8.getD 2 d0).ll).getD ((v8.getD 4 d0).ii).toNat []).getD 3 d0).ss), DC.sl (((((v8.getD 2 d0).ll).getD ((v8.getD 4 d0).ii).toNat []).getD 4 d0).ll), DC.sl (((((v8.getD 2 d0).ll).getD ((v8.getD 4 d0).ii).toNat []).getD 5 d0).ll), DC.sl (((((v8.getD 2 d0).ll).getD ((v8.getD 4 d0).ii).toNat []).getD 6 d0).ll), DC.sl (((((v8.getD 2 d0).ll).getD ((v8.getD 4 d0).ii).toNat []).getD 7 d0).ll), DC.sl (((((v8.getD 2 d0).ll).getD ((v8.getD 4 d0).ii).toNat []).getD 8 d0).ll), DC.b (((((v8.getD 2 d0).ll).getD ((v8.getD 4 d0).ii).toNat []).getD 9 d0).bb), DC.sl (((((v8.getD 2 d0).ll).getD ((v8.getD 4 d0).ii).toNat []).getD 10 d0).ll)]) ((v8.getD 0 d0).ll)).toNat []).getD 4 d0).ll), .sl (((((v8.getD 0 d0).ll).getD (idxP (fun x => alkP x [DC.i (((((v8.getD 2 d0).ll).getD ((v8.getD 4 d0).ii).toNat []).getD 0 d0).ii), DC.b (((((v8.getD 2 d0).ll).getD ((v8.getD 4 d0).ii).toNat []).getD 1 d0).bb), DC.s (((((v8.getD 2 d0).ll).getD ((v8.getD 4 d0).ii).toNat []).getD 2 d0).ss), DC.s (((((v8.getD 2 d0).ll).getD ((v8.getD 4 d0).ii).toNat []).getD 3 d0).ss), DC.sl (((((v8.getD 2 d0).ll).getD ((v8.getD 4 d0).ii).toNat []).getD 4 d0).ll), DC.sl (((((v8.getD 2 d0).ll).getD ((v8.getD 4 d0).ii).toNat []).getD 5 d0).ll), DC.sl (((((v8.getD 2 d0).ll).getD ((v8.getD 4 d0).ii).toNat []).getD 6 d0).ll), DC.sl (((((v8.getD 2 d0).ll).getD ((v8.getD 4 d0).ii).toNat []).getD 7 d0).ll), DC.sl (((((v8.getD 2 d0).ll).getD ((v8.getD 4 d0).ii).toNat []).getD 8 d0).ll), DC.b (((((v8.getD 2 d0).ll).getD ((v8.getD 4 d0).ii).toNat []).getD 9 d0).bb), DC.sl (((((v8.getD 2 d0).ll).getD ((v8.getD 4 d0).ii).toNat []).getD 10 d0).ll)]) ((v8.getD 0 d0).ll)).toNat []).getD 5 d0).ll), .sl (((((v8.getD 0 d0).ll).getD (idxP (fun x => alkP x [DC.i (((((v8.getD 2 d0).ll).getD ((v8.getD 4 d0).ii).toNat []).getD 0 d0).ii), DC.b (((((v8.getD 2 d0).ll).getD ((v8.getD 4 d0).ii).toNat []).getD 1 d0).bb), DC.s (((((v8.getD 2 d0).ll).getD ((v8.getD 4 d0).ii).toNat []).getD 2 d0).ss), DC.s (((((v8.getD 2 d0).ll).getD ((v8.getD 4 d0).ii).toNat []).getD 3 d0).ss), DC.sl (((((v8.getD 2 d0).ll).getD ((v8.getD 4 d0).ii).toNat []).getD 4 d0).ll), DC.sl (((((v8.getD 2 d0).ll).getD ((v8.getD 4 d0).ii).toNat []).getD 5 d0).ll), DC.sl (((((v8.getD 2 d0).ll).getD ((v8.getD 4 d0).ii).toNat []).getD 6 d0).ll), DC.sl (((((v8.getD 2 d0).ll).getD ((v8.getD 4 d0).ii).toNat []).getD 7 d0).ll), DC.sl (((((v8.getD 2 d0).ll).getD ((v8.getD 4 d0).ii).toNat []).getD 8 d0).ll), DC.b (((((v8.getD 2 d0).ll).getD ((v8.getD 4 d0).ii).toNat []).getD 9 d0).bb), DC.sl (((((v8.getD 2 d0).ll).getD ((v8.getD 4 d0).ii).toNat []).getD 10 d0).ll)]) ((v8.getD 0 d0).ll)).toNat []).getD 6 d0).ll), .sl (((((v8.getD 0 d0).ll).getD (idxP (fun x => alkP x [DC.i (((((v8.getD 2 d0).ll).getD ((v8.getD 4 d0).ii).toNat []).getD 0 d0).ii), DC.b (((((v8.getD 2 d0).ll).getD ((v8.getD 4 d0).ii).toNat []).getD 1 d0).bb), DC.s (((((v8.getD 2 d0).ll).getD ((v8.getD 4 d0).ii).toNat []).getD 2 d0).ss), DC.s (((((v8.getD 2 d0).ll).getD ((v8.getD 4 d0).ii).toNat []).getD 3 d0).ss), DC.sl (((((v8.getD 2 d0).ll).getD ((v8.getD 4 d0).ii).toNat []).getD 4 d0).ll), DC.sl (((((v8.getD 2 d0).ll).getD ((v8.getD 4 d0).ii).toNat []).getD 5 d0).ll), DC.sl (((((v8.getD 2 d0).ll).getD ((v8.getD 4 d0).ii).toNat []).getD 6 d0).ll), DC.sl (((((v8.getD 2 d0).ll).getD ((v8.getD 4 d0).ii).toNat []).getD 7 d0).ll), DC.sl (((((v8.getD 2 d0).ll).getD ((v8.getD 4 d0).ii).toNat []).getD 8 d0).ll), DC.b (((((v8.getD 2 d0).ll).getD ((v8.getD 4 d0).ii).toNat []).getD 9 d0).bb), DC.sl (((((v8.getD 2 d0).ll).getD ((v8.getD 4 d0).ii).toNat []).getD 10 d0).ll)]) ((v8.getD 0 d0).ll)).toNat []).getD 7 d0).ll), .sl (((((v8.getD 0 d0).ll).getD (idxP (fun x => alkP x [DC.i (((((v8.getD 2 d0).ll).getD ((v8.getD 4 d0).ii).toNat []).getD 0 d0).ii), DC.b (((((v8.getD 2 d0).ll).getD ((v8.getD 4 d0).ii).toNat []).getD 1 d0).bb), DC.s (((((v8.getD 2 d0).ll).getD ((v8.getD 4 d0).ii).toNat []).getD 2 d0).ss), DC.s (((((v8.getD 2 d0).ll).getD ((v8.getD 4 d0).ii).toNat []).getD 3 d0).ss), DC.sl (((((v8.getD 2 d0).ll).getD ((v8.getD 4 d0).ii).toNat []).getD 4 d0).ll), DC.sl (((((v8.getD 2 d0).ll).getD ((v8.getD 4 d0).ii).toNat []).getD 5 d0).ll), DC.sl (((((v8.getD 2 d0).ll).getD ((v8.getD 4 d0).ii).toNat []).getD 6 d0).ll), DC.sl (((((v8.getD 2 d0).ll).getD ((v8.getD 4 d0).ii).toNat []).getD 7 d0).ll), DC.sl (((((v8.getD 2 d0).ll).getD ((v8.getD 4 d0).ii).toNat []).getD 8 d0).ll), DC.b (((((v8.getD 2 d0).ll).getD ((v8.getD 4 d0).ii).toNat []).getD 9 d0).bb), DC.sl (((((v8.getD 2 d0).ll).getD ((v8.getD 4 d0).ii).toNat []).getD 10 d0).ll)]) ((v8.getD 0 d0).ll)).toNat []).getD 8 d0).ll), .b (((((v8.getD 0 d0).ll).getD (idxP (fun x => alkP x [DC.i (((((v8.getD 2 d0).ll).getD ((v8.getD 4 d0).ii).toNat []).getD 0 d0).ii), DC.b (((((v8.getD 2 d0).ll).getD ((v8.getD 4 d0).ii).toNat []).getD 1 d0).bb), DC.s (((((v8.getD 2 d0).ll).getD ((v8.getD 4 d0).ii).toNat []).getD 2 d0).ss), DC.s (((((v8.getD 2 d0).ll).getD ((v8.getD 4 d0).ii).toNat []).getD 3 d0).ss), DC.sl (((((v8.getD 2 d0).ll).getD ((v8.getD 4 d0).ii).toNat []).getD 4 d0).ll), DC.sl (((((v8.getD 2 d0).ll).getD ((v8.getD 4 d0).ii).toNat []).getD 5 d0).ll), DC.sl (((((v8.getD 2 d0).ll).getD ((v8.getD 4 d0).ii).toNat []).getD 6 d0).ll), DC.sl (((((v8.getD 2 d0).ll).getD ((v8.getD 4 d0).ii).toNat []).getD 7 d0).ll), DC.sl (((((v8.getD 2 d0).ll).getD ((v8.getD 4 d0).ii).toNat []).getD 8 d0).ll), DC.b (((((v8.getD 2 d0).ll).getD ((v8.getD 4 d0).ii).toNat []).getD 9 d0).bb), DC.sl (((((v8.getD 2 d0).ll).getD ((v8.getD 4 d0).ii).toNat []).getD 10 d0).ll)]) ((v8.getD 0 d0).ll)).toNat []).getD 9 d0).bb), .sl (((((v8.getD 0 d0).ll).getD (idxP (fun x => alkP x [DC.i (((((v8.getD 2 d0).ll).getD ((v8.getD 4 d0).ii).toNat []).getD 0 d0).ii), DC.b (((((v8.getD 2 d0).ll).getD ((v8.getD 4 d0).ii).toNat []).getD 1 d0).bb), DC.s (((((v8.getD 2 d0).ll).getD ((v8.getD 4 d0).ii).toNat []).getD 2 d0).ss), DC.s (((((v8.getD 2 d0).ll).getD ((v8.getD 4 d0).ii).toNat []).getD 3 d0).ss), DC.sl (((((v8.getD 2 d0).ll).getD ((v8.getD 4 d0).ii).toNat []).getD 4 d0).ll), DC.sl (((((v8.getD 2 d0).ll).getD ((v8.getD 4 d0).ii).toNat []).getD 5 d0).ll), DC.sl (((((v8.getD 2 d0).ll).getD ((v8.getD 4 d0).ii).toNat []).getD 6 d0).ll), DC.sl (((((v8.getD 2 d0).ll).getD ((v8.getD 4 d0).ii).toNat []).getD 7 d0).ll), DC.sl (((((v8.getD 2 d0).ll).getD ((v8.getD 4 d0).ii).toNat []).getD 8 d0).ll), DC.b (((((v8.getD 2 d0).ll).getD ((v8.getD 4 d0).ii).toNat []).getD 9 d0).bb), DC.sl (((((v8.getD 2 d0).ll).getD ((v8.getD 4 d0).ii).toNat []).getD 10 d0).ll)]) ((v8.getD 0 d0).ll)).toNat []).getD 10 d0).ll), .i (((((v8.getD 2 d0).ll).getD ((v8.getD 4 d0).ii).toNat []).getD 0 d0).ii), .b (((((v8.getD 2 d0).ll).getD ((v8.getD 4 d0).ii).toNat []).getD 1 d0).bb), .s (((((v8.getD 2 d0).ll).getD ((v8.getD 4 d0).ii).toNat []).getD 2 d0).ss), .s (((((v8.getD 2 d0).ll).getD ((v8.getD 4 d0).ii).toNat []).getD 3 d0).ss), .sl (((((v8.getD 2 d0).ll).getD ((v8.getD 4 d0).ii).toNat []).getD 4 d0).ll), .sl (((((v8.getD 2 d0).ll).getD ((v8.getD 4 d0).ii).toNat []).getD 5 d0).ll), .sl (((((v8.getD 2 d0).ll).getD ((v8.getD 4 d0).ii).toNat []).getD 6 d0).ll), .sl (((((v8.getD 2 d0).ll).getD ((v8.getD 4 d0).ii).toNat []).getD 7 d0).ll), .sl (((((v8.getD 2 d0).ll).getD ((v8.getD 4 d0).ii).toNat []).getD 8 d0).ll), .b (((((v8.getD 2 d0).ll).getD ((v8.getD 4 d0).ii).toNat []).getD 9 d0).bb), .sl (((((v8.getD 2 d0).ll).getD ((v8.getD 4 d0).ii).toNat []).getD 10 d0).ll)]).bindR fun r9 =>
 if 84 = 84 ∧ 0 ≤ (idxP (fun x => alkP x [DC.i (((((v8.getD 2 d0).ll).getD ((v8.getD 4 d0).ii).toNat []).getD 0 d0).ii), DC.b (((((v8.getD 2 d0).ll).getD ((v8.getD 4 d0).ii).toNat []).getD 1 d0).bb), DC.s (((((v8.getD 2 d0).ll).getD ((v8.getD 4 d0).ii).toNat []).getD 2 d0).ss), DC.s (((((v8.getD 2 d0).ll).getD ((v8.getD 4 d0).ii).toNat []).getD 3 d0).ss), DC.sl (((((v8.getD 2 d0).ll).getD ((v8.getD 4 d0).ii).toNat []).getD 4 d0).ll), DC.sl (((((v8.getD 2 d0).ll).getD ((v8.getD 4 d0).ii).toNat []).getD 5 d0).ll), DC.sl (((((v8.getD 2 d0).ll).getD ((v8.getD 4 d0).ii).toNat []).getD 6 d0).ll), DC.sl (((((v8.getD 2 d0).ll).getD ((v8.getD 4 d0).ii).toNat []).getD 7 d0).ll), DC.sl (((((v8.getD 2 d0).ll).getD ((v8.getD 4 d0).ii).toNat []).getD 8 d0).ll), DC.b (((((v8.getD 2 d0).ll).getD ((v8.getD 4 d0).ii).toNat []).getD 9 d0).bb), DC.sl (((((v8.getD 2 d0).ll).getD ((v8.getD 4 d0).ii).toNat []).getD 10 d0).ll)]) ((v8.getD 0 d0).ll)) ∧ (idxP (fun x => alkP x [DC.i (((((v8.getD 2 d0).ll).getD ((v8.getD 4 d0).ii).toNat []).getD 0 d0).ii), DC.b (((((v8.getD 2 d0).ll).getD ((v8.getD 4 d0).ii).toNat []).getD 1 d0).bb), DC.s (((((v8.getD 2 d0).ll).getD ((v8.getD 4 d0).ii).toNat []).getD 2 d0).ss), DC.s (((((v8.getD 2 d0).ll).getD ((v8.getD 4 d0).ii).toNat []).getD 3 d0).ss), DC.sl (((((v8.getD 2 d0).ll).getD ((v8.getD 4 d0).ii).toNat []).getD 4 d0).ll), DC.sl (((((v8.getD 2 d0).ll).getD ((v8.getD 4 d0).ii).toNat []).getD 5 d0).ll), DC.sl (((((v8.getD 2 d0).ll).getD ((v8.getD 4 d0).ii).toNat []).getD 6 d0).ll), DC.sl (((((v8.getD 2 d0).ll).getD ((v8.getD 4 d0).ii).toNat []).getD 7 d0).ll), DC.sl (((((v8.getD 2 d0).ll).getD ((v8.getD 4 d0).ii).toNat []).getD 8 d0).ll), DC.b (((((v8.getD 2 d0).ll).getD ((v8.getD 4 d0).ii).toNat []).getD 9 d0).bb), DC.sl (((((v8.getD 2 d0).ll).getD ((v8.getD 4 d0).ii).toNat []).getD 10 d0).ll)]) ((v8.getD 0 d0).ll)) < (((v8.getD 0 d0).ll).length : Int) then
 if 1084 = 1084 ∧ ((idxP (fun x => alkP x [DC.i (((((v8.getD 2 d0).ll).getD ((v8.getD 4 d0).ii).toNat []).getD 0 d0).ii), DC.b (((((v8.getD 2 d0).ll).getD ((v8.getD 4 d0).ii).toNat []).getD 1 d0).bb), DC.s (((((v8.getD 2 d0).ll).getD ((v8.getD 4 d0).ii).toNat []).getD 2 d0).ss), DC.s (((((v8.getD 2 d0).ll).getD ((v8.getD 4 d0).ii).toNat []).getD 3 d0).ss), DC.sl (((((v8.getD 2 d0).ll).getD ((v8.getD 4 d0).ii).toNat []).getD 4 d0).ll), DC.sl (((((v8.getD 2 d0).ll).getD ((v8.getD 4 d0).ii).toNat []).getD 5 d0).ll), DC.sl (((((v8.getD 2 d0).ll).getD ((v8.getD 4 d0).ii).toNat []).getD 6 d0).ll), DC.sl (((((v8.getD 2 d0).ll).getD ((v8.getD 4 d0).ii).toNat []).getD 7 d0).ll), DC.sl (((((v8.getD 2 d0).ll).getD ((v8.getD 4 d0).ii).toNat []).getD 8 d0).ll), DC.b (((((v8.getD 2 d0).ll).getD ((v8.getD 4 d0).ii).toNat []).getD 9 d0).bb), DC.sl (((((v8.getD 2 d0).ll).getD ((v8.getD 4 d0).ii).toNat []).getD 10 d0).ll)]) ((v8.getD 0 d0).ll)).toNat) = ((idxP (fun x => alkP x [DC.i (((((v8.getD 2 d0).ll).getD ((v8.getD 4 d0).ii).toNat []).getD 0 d0).ii), DC.b (((((v8.getD 2 d0).ll).getD ((v8.getD 4 d0).ii).toNat []).getD 1 d0).bb), DC.s (((((v8.getD 2 d0).ll).getD ((v8.getD 4 d0).ii).toNat []).getD 2 d0).ss), DC.s (((((v8.getD 2 d0).ll).getD ((v8.getD 4 d0).ii).toNat []).getD 3 d0).ss), DC.sl (((((v8.getD 2 d0).ll).getD ((v8.getD 4 d0).ii).toNat []).getD 4 d0).ll), DC.sl (((((v8.getD 2 d0).ll).getD ((v8.getD 4 d0).ii).toNat []).getD 5 d0).ll), DC.sl (((((v8.getD 2 d0).ll).getD ((v8.getD 4 d0).ii).toNat []).getD 6 d0).ll), DC.sl (((((v8.getD 2 d0).ll).getD ((v8.getD 4 d0).ii).toNat []).getD 7 d0).ll), DC.sl (((((v8.getD 2 d0).ll).getD ((v8.getD 4 d0).ii).toNat []).getD 8 d0).ll), DC.b (((((v8.getD 2 d0).ll).getD ((v8.getD 4 d0).ii).toNat []).getD 9 d0).bb), DC.sl (((((v8.getD 2 d0).ll).getD ((v8.getD 4 d0).ii).toNat []).getD 10 d0).ll)]) ((v8.getD 0 d0).ll)).toNat) ∧ 0 = 0 ∧ 11 = 11 then
 .norm [.sl (((v8.getD 0 d0).ll).set ((idxP (fun x => alkP x [DC.i (((((v8.getD 2 d0).ll).getD ((v8.getD 4 d0).ii).toNat []).getD 0 d0).ii), DC.b (((((v8.getD 2 d0).ll).getD ((v8.getD 4 d0).ii).toNat []).getD 1 d0).bb), DC.s (((((v8.getD 2 d0).ll).getD ((v8.getD 4 d0).ii).toNat []).getD 2 d0).ss), DC.s (((((v8.getD 2 d0).ll).getD ((v8.getD 4 d0).ii).toNat []).getD 3 d0).ss), DC.sl (((((v8.getD 2 d0).ll).getD ((v8.getD 4 d0).ii).toNat []).getD 4 d0).ll), DC.sl (((((v8.getD 2 d0).ll).getD ((v8.getD 4 d0).ii).toNat []).getD 5 d0).ll), DC.sl (((((v8.getD 2 d0).ll).getD ((v8.getD 4 d0).ii).toNat []).getD 6 d0).ll), DC.sl (((((v8.getD 2 d0).ll).getD ((v8.getD 4 d0).ii).toNat []).getD 7 d0).ll), DC.sl (((((v8.getD 2 d0).ll).getD ((v8.getD 4 d0).ii).toNat []).getD 8 d0).ll), DC.b (((((v8.getD 2 d0).ll).getD ((v8.getD 4 d0).ii).toNat []).getD 9 d0).bb), DC.sl (((((v8.getD 2 d0).ll).getD ((v8.getD 4 d0).ii).toNat []).getD 10 d0).ll)]) ((v8.getD 0 d0).ll)).toNat) [DC.i ((r9.getD 0 d0).ii), DC.b ((r9.getD 1 d0).bb), DC.s ((r9.getD 2 d0).ss), DC.s ((r9.getD 3 d0).ss), DC.sl ((r9.getD 4 d0).ll), DC.sl ((r9.getD 5 d0).ll), DC.sl ((r9.getD 6 d0).ll), DC.sl ((r9.getD 7 d0).ll), DC.sl ((r9.getD 8 d0).ll), DC.b ((r9.getD 9 d0).bb), DC.sl ((r9.getD 10 d0).ll)]), .sl ((v8.getD 1 d0).ll), .sl ((v8.getD 2 d0).ll), .i ((v8.getD 3 d0).ii), .i ((v8.getD 4 d0).ii)]
 else
 .fail
 else
 .fail
 else
 .fail) fun v10 =>
 .norm [.sl ((v10.getD 0 d0).ll), .sl ((v10.getD 1 d0).ll), .sl ((v10.getD 2 d0).ll), .i ((v10.getD 3 d0).ii), .i ((v10.getD 4 d0).ii)]
 else
 .fail) fun v11 =>
 .norm [.sl ((v11.getD 0 d0).ll), .sl ((v11.getD 1 d0).ll), .sl ((v11.getD 2 d0).ll), .i ((v11.getD 3 d0).ii), .i ((v11.getD 4 d0).ii)]) 5 fun v12 =>
 .norm [.sl ((v12.getD 0 d0).ll), .sl ((v12.getD 1 d0).ll), .sl ((v12.getD 2 d0).ll), .i ((v12.getD 3 d0).ii), .i ((v12.getD 4 d0).ii)]
 else
 .fail
 else
 .fail) 4 fun v13 =>
 .norm [.sl ((v13.getD 0 d0).ll), .sl ((v13.getD 1 d0).ll), .sl ((v13.getD 2 d0).ll), .i ((v13.getD 3 d0).ii), .i (IntKind.i64.wrap ((v13.getD 4 d0).ii + (1 : Int)))]
 else
 .ex 3 [.sl ((v8.getD 0 d0).ll), .sl ((v8.getD 1 d0).ll)]
noncomputable def E_impl_Join (a : List DC) : Out :=
 if (decide ((((a.getD 0 d0).ll).length : Int) > (60 : Int))) = true then
 .ret [.sl [], .sl [[DC.i (5 : Int), DC.s [], DC.s []]]]
 else
 Out.andThenB (Loop E_impl_JoinL1 [.sl ((a.getD 0 d0).ll), .sl [], .sl [], .sl ((a.getD 0 d0).ll), .i (((a.getD 0 d0).ll).length : Int), .i (0 : Int)]) 0 fun v7 =>
 Out.andThenB (Loop E_impl_JoinL2 [.sl ((v7.getD 1 d0).ll), .sl ((v7.getD 2 d0).ll), .sl ((v7.getD 0 d0).ll), .i (((v7.getD 0 d0).ll).length : Int), .i (0 : Int)]) 3 fun v14 =>
 .ret [.sl ((v14.getD 0 d0).ll), .sl ((v14.getD 1 d0).ll)]
theorem eq_impl_Join a : r_impl_Join a = E_impl_Join a := (Run_eq cfg 20 _ a).trans (by kernel_rfl)
noncomputable def E_laws_eqDefSL1 : List DC → Out := fun v1 =>
 if (decide ((v1.getD 2 d0).ii < (((v1.getD 0 d0).ll).length : Int))) = true then
 Out.andThenB (if 84 = 84 ∧ 0 ≤ (v1.getD 2 d0).ii ∧ (v1.getD 2 d0).ii < (((v1.getD 0 d0).ll).length : Int) then
 if 84 = 84 ∧ 0 ≤ (v1.getD 2 d0).ii ∧ (v1.getD 2 d0).ii < (((v1.getD 1 d0).ll).length : Int) then
 (r_laws_eqDef [.i (((((v1.getD 0 d0).ll).getD ((v1.getD 2 d0).ii).toNat []).getD 0 d0).ii), .b (((((v1.getD 0 d0).ll).getD ((v1.getD 2 d0).ii).toNat []).getD 1 d0).bb), .s (((((v1.getD 0 d0).ll).getD ((v1.getD 2 d0).ii).toNat []).getD 2 d0).ss), .s (((((v1.getD 0 d0).ll).getD ((v1.getD 2 d0).ii).toNat []).getD 3 d0).ss), .sl (((((v1.getD 0 d0).ll).getD ((v1.getD 2 d0).ii).toNat []).getD 4 d0).ll), .sl (((((v1.getD 0 d0).ll).getD ((v1.getD 2 d0).ii).toNat []).getD 5 d0).ll), .sl (((((v1.getD 0 d0).ll).getD ((v1.getD 2 d0).ii).toNat []).getD 6 d0).ll), .sl (((((v1.getD 0 d0).ll).getD ((v1.getD 2 d0).ii).toNat []).getD 7 d0).ll), .sl (((((v1.getD 0 d0).ll).getD ((v1.getD 2 d0).ii).toNat []).getD 8 d0).ll), .b (((((v1.getD 0 d0).ll).getD ((v1.getD 2 d0).ii).toNat []).getD 9 d0).bb), .sl (((((v1.getD 0 d0).ll).getD ((v1.getD 2 d0).ii).toNat []).getD 10 d0).ll), .i (((((v1.getD 1 d0).ll).getD ((v1.getD 2 d0).ii).toNat []).getD 0 d0).ii), .b (((((v1.getD 1 d0).ll).getD ((v1.getD 2 d0).ii).toNat []).getD 1 d0).bb), .s (((((v1.getD 1 d0).ll).getD ((v1.getD 2 d0).ii).toNat []).getD 2 d0).ss), .s (((((v1.getD 1 d0).ll).getD ((v1.getD 2 d0).ii).toNat []).getD 3 d0).ss), .sl (((((v1.getD 1 d0).ll).getD ((v1.getD 2 d0).ii).toNat []).getD 4 d0).ll), .sl (((((v1.getD 1 d0).ll).getD ((v1.getD 2 d0).ii).toNat []).getD 5 d0).ll), .sl (((((v1.getD 1 d0).ll).getD ((v1.getD 2 d0).ii).toNat []).getD 6 d0).ll), .sl (((((v1.getD 1 d0).ll).getD ((v1.getD 2 d0).ii).toNat []).getD 7 d0).ll), .sl (((((v1.getD 1 d0).ll).getD ((v1.getD 2 d0).ii).toNat []).getD 8 d0).ll), .b (((((v1.getD 1 d0).ll).getD ((v1.getD 2 d0).ii).toNat []).getD 9 d0).bb), .sl (((((v1.getD 1 d0).ll).getD ((v1.getD 2 d0).ii).toNat []).getD 10 d0).ll)]).bindR fun r2 =>
 if (!((r2.getD 0 d0).bb)) = true then
 .ret [.b false]
 else
 .norm [.sl ((v1.getD 0 d0).ll), .sl ((v1.getD 1 d0).ll), .i ((v1.getD 2 d0).ii)]
 else
 .fail
 else
 .fail) 1 fun v3 =>
 .norm [.sl ((v3.getD 0 d0).ll), .sl ((v3.getD 1 d0).ll), .i (IntKind.i64.wrap ((v3.getD 2 d0).ii + (1 : Int)))]
 else
 .ex 0 []
noncomputable def E_laws_eqDefS (a : List DC) : Out :=
 if ((((a.getD 0 d0).ll).length : Int) != (((a.getD 1 d0).ll).length : Int)) = true then
 .ret [.b false]
 else
 Out.andThenB (Loop E_laws_eqDefSL1 [.sl ((a.getD 0 d0).ll), .sl ((a.getD 1 d0).ll), .i (0 : Int)]) 0 fun v4 =>
 .ret [.b true]
theorem eq_laws_eqDefS a : r_laws_eqDefS a = E_laws_eqDefS a := (Run_eq cfg 21 _ a).trans (by kernel_rfl)
noncomputable def E_laws_eqProblemSL1 : List DC → Out := fun v1 =>
 if (decide ((v1.getD 2 d0).ii < (((v1.getD 0 d0).ll).length : Int))) = true then
 Out.andThenB (if 81 = 81 ∧ 0 ≤ (v1.getD 2 d0).ii ∧ (v1.getD 2 d0).ii < (((v1.getD 0 d0).ll).length : Int) then
 if 81 = 81 ∧ 0 ≤ (v1.getD 2 d0).ii ∧ (v1.getD 2 d0).ii < (((v1.getD 1 d0).ll).length : Int) then
 (r_laws_eqProblem [.i (((((v1.getD 0 d0).ll).getD ((v1.getD 2 d0).ii).toNat []).getD 0 d0).ii), .s (((((v1.getD 0 d0).ll).getD ((v1.getD 2 d0).ii).toNat []).getD 1 d0).ss), .s (((((v1.getD 0 d0).ll).getD ((v1.getD 2 d0).ii).toNat []).getD 2 d0).ss), .i (((((v1.getD 1 d0).ll).getD ((v1.getD 2 d0).ii).toNat []).getD 0 d0).ii), .s (((((v1.getD 1 d0).ll).getD ((v1.getD 2 d0).ii).toNat []).getD 1 d0).ss), .s (((((v1.getD 1 d0).ll).getD ((v1.getD 2 d0).ii).toNat []).getD 2 d0).ss)]).bindR fun r2 =>
 if (!((r2.getD 0 d0).bb)) = true then
 .ret [.b false]
 else
 .norm [.sl ((v1.getD 0 d0).ll), .sl ((v1.getD 1 d0).ll), .i ((v1.getD 2 d0).ii)]
 else
 .fail
 else
 .fail) 1 fun v3 =>
 .norm [.sl ((v3.getD 0 d0).ll), .sl ((v3.getD 1 d0).ll), .i (IntKind.i64.wrap ((v3.getD 2 d0).ii + (1 : Int)))]
 else
 .ex 0 []
noncomputable def E_laws_eqProblemS (a : List DC) : Out :=
 if ((((a.getD 0 d0).ll).length : Int) != (((a.getD 1 d0).ll).length : Int)) = true then
 .ret [.b false]
 else
 Out.andThenB (Loop E_laws_eqProblemSL1 [.sl ((a.getD 0 d0).ll), .sl ((a.getD 1 d0).ll), .i (0 : Int)]) 0 fun v4 =>
 .ret [.b true]
theorem eq_laws_eqProblemS a : r_laws_eqProblemS a = E_laws_eqProblemS a := (Run_eq cfg 22 _ a).trans (by kernel_rfl)
noncomputable def E_laws_heldDefSL1 : List DC → Out := fun v1 =>
 if (decide ((v1.getD 2 d0).ii < (((v1.getD 0 d0).ll).length : Int))) = true then
 Out.andThenB (if 84 = 84 ∧ 0 ≤ (v1.getD 2 d0).ii ∧ (v1.getD 2 d0).ii < (((v1.getD 0 d0).ll).length : Int) then
 if (((((v1.getD 0 d0).ll).getD ((v1.getD 2 d0).ii).toNat []).getD 0 d0).ii != (v1.getD 1 d0).ii) = true then
 .ret [.i (-1 : Int)]
 else
 if 84 = 84 ∧ 0 ≤ (v1.getD 2 d0).ii ∧ (v1.getD 2 d0).ii < (((v1.getD 0 d0).ll).length : Int) then
 if (3 : Int) = 0 then
 .fail
 else
 if (!(((((v1.getD 0 d0).ll).getD ((v1.getD 2 d0).ii).toNat []).getD 1 d0).bb == (((IntKind.i64.wrap ((v1.getD 1 d0).ii + (1 : Int))).tmod (3 : Int)) == (0 : Int)))) = true then
 .ret [.i (-1 : Int)]
 else
 if 84 = 84 ∧ 0 ≤ (v1.getD 2 d0).ii ∧ (v1.getD 2 d0).ii < (((v1.getD 0 d0).ll).length : Int) then
 (r_laws_markText [.i (IntKind.i64.wrap ((IntKind.i64.wrap ((v1.getD 1 d0).ii + (1 : Int))) + (1 : Int)))]).bindR fun r2 =>
 if (!(((((v1.getD 0 d0).ll).getD ((v1.getD 2 d0).ii).toNat []).getD 2 d0).ss == (r2.getD 0 d0).ss)) = true then
 .ret [.i (-1 : Int)]
 else
 if 84 = 84 ∧ 0 ≤ (v1.getD 2 d0).ii ∧ (v1.getD 2 d0).ii < (((v1.getD 0 d0).ll).length : Int) then
 (r_laws_markText [.i (IntKind.i64.wrap ((IntKind.i64.wrap ((IntKind.i64.wrap ((v1.getD 1 d0).ii + (1 : Int))) + (1 : Int))) + (1 : Int)))]).bindR fun r3 =>
 if (!(((((v1.getD 0 d0).ll).getD ((v1.getD 2 d0).ii).toNat []).getD 3 d0).ss == (r3.getD 0 d0).ss)) = true then
 .ret [.i (-1 : Int)]
 else
 if 84 = 84 ∧ 0 ≤ (v1.getD 2 d0).ii ∧ (v1.getD 2 d0).ii < (((v1.getD 0 d0).ll).length : Int) then
 (r_laws_heldStringS [.sl (((((v1.getD 0 d0).ll).getD ((v1.getD 2 d0).ii).toNat []).getD 4 d0).ll), .i (IntKind.i64.wrap ((IntKind.i64.wrap ((IntKind.i64.wrap ((IntKind.i64.wrap ((v1.getD 1 d0).ii + (1 : Int))) + (1 : Int))) + (1 : Int))) + (1 : Int)))]).bindR fun r4 =>
 if (decide ((r4.getD 0 d0).ii < (0 : Int))) = true then
 .ret [.i (-1 : Int)]
 else
 if 84 = 84 ∧ 0 ≤ (v1.getD 2 d0).ii ∧ (v1.getD 2 d0).ii < (((v1.getD 0 d0).ll).length : Int) then
 (r_laws_heldFieldDefS [.sl (((((v1.getD 0 d0).ll).getD ((v1.getD 2 d0).ii).toNat []).getD 5 d0).ll), .i ((r4.getD 0 d0).ii)]).bindR fun r5 =>
 if (decide ((r5.getD 0 d0).ii < (0 : Int))) = true then
 .ret [.i (-1 : Int)]
 else
 if 84 = 84 ∧ 0 ≤ (v1.getD 2 d0).ii ∧ (v1.getD 2 d0).ii < (((v1.getD 0 d0).ll).length : Int) then
 (r_laws_heldInDefS [.sl (((((v1.getD 0 d0).ll).getD ((v1.getD 2 d0).ii).toNat []).getD 6 d0).ll), .i ((r5.getD 0 d0).ii)]).bindR fun r6 =>
 if (decide ((r6.getD 0 d0).ii < (0 : Int))) = true then
 .ret [.i (-1 : Int)]
 else
 if 84 = 84 ∧ 0 ≤ (v1.getD 2 d0).ii ∧ (v1.getD 2 d0).ii < (((v1.getD 0 d0).ll).length : Int) then
 (r_laws_heldEnumDefS [.sl (((((v1.getD 0 d0).ll).getD ((v1.getD 2 d0).ii).toNat []).getD 7 d0).ll), .i ((r6.getD 0 d0).ii)]).bindR fun r7 =>
 if (decide ((r7.getD 0 d0).ii < (0 : Int))) = true then
 .ret [.i (-1 : Int)]
 else
 if 84 = 84 ∧ 0 ≤ (v1.getD 2 d0).ii ∧ (v1.getD 2 d0).ii < (((v1.getD 0 d0).ll).length : Int) then
 (r_laws_heldRootS [.sl (((((v1.getD 0 d0).ll).getD ((v1.getD 2 d0).ii).toNat []).getD 8 d0).ll), .i ((r7.getD 0 d0).ii)]).bindR fun r8 =>
 if (decide ((r8.getD 0 d0).ii < (0 : Int))) = true then
 .ret [.i (-1 : Int)]
 else
 if 84 = 84 ∧ 0 ≤ (v1.getD 2 d0).ii ∧ (v1.getD 2 d0).ii < (((v1.getD 0 d0).ll).length : Int) then
 if (3 : Int) = 0 then
 .fail
 else
 if (!(((((v1.getD 0 d0).ll).getD ((v1.getD 2 d0).ii).toNat []).getD 9 d0).bb == ((((r8.getD 0 d0).ii).tmod (3 : Int)) == (0 : Int)))) = true then
 .ret [.i (-1 : Int)]
 else
 if 84 = 84 ∧ 0 ≤ (v1.getD 2 d0).ii ∧ (v1.getD 2 d0).ii < (((v1.getD 0 d0).ll).length : Int) then
 (r_laws_heldDirS [.sl (((((v1.getD 0 d0).ll).getD ((v1.getD 2 d0).ii).toNat []).getD 10 d0).ll), .i (IntKind.i64.wrap ((r8.getD 0 d0).ii + (1 : Int)))]).bindR fun r9 =>
 if (decide ((r9.getD 0 d0).ii < (0 : Int))) = true then
 .ret [.i (-1 : Int)]
 else
 .norm [.sl ((v1.getD 0 d0).ll), .i ((r9.getD 0 d0).ii), .i ((v1.getD 2 d0).ii)]
 else
 .fail
 else
 .fail
 else
 .fail
 else
 .fail
 else
 .fail
 else
 .fail
 else
 .fail
 else
 .fail
 else
 .fail
 else
 .fail
 else
 .fail) 1 fun v10 =>
 .norm [.sl ((v10.getD 0 d0).ll), .i ((v10.getD 1 d0).ii), .i (IntKind.i64.wrap ((v10.getD 2 d0).ii + (1 : Int)))]
 else
 .ex 0 [.i ((v1.getD 1 d0).ii)]
noncomputable def E_laws_heldDefS (a : List DC) : Out :=
 Out.andThenB (Loop E_laws_heldDefSL1 [.sl ((a.getD 0 d0).ll), .i ((a.getD 1 d0).ii), .i (0 : Int)]) 0 fun v11 =>
 .ret [.i ((v11.getD 0 d0).ii)]
theorem eq_laws_heldDefS a : r_laws_heldDefS a = E_laws_heldDefS a := (Run_eq cfg 25 _ a).trans (by kernel_rfl)
noncomputable def E_laws_heldProblemSL1 : List DC → Out := fun v1 =>
 if (decide ((v1.getD 2 d0).ii < (((v1.getD 0 d0).ll).length : Int))) = true then
 Out.andThenB (if 81 = 81 ∧ 0 ≤ (v1.getD 2 d0).ii ∧ (v1.getD 2 d0).ii < (((v1.getD 0 d0).ll).length : Int) then
 if (((((v1.getD 0 d0).ll).getD ((v1.getD 2 d0).ii).toNat []).getD 0 d0).ii != (v1.getD 1 d0).ii) = true then
 .ret [.i (-1 : Int)]
 else
 if 81 = 81 ∧ 0 ≤ (v1.getD 2 d0).ii ∧ (v1.getD 2 d0).ii < (((v1.getD 0 d0).ll).length : Int) then
 (r_laws_markText [.i (IntKind.i64.wrap ((v1.getD 1 d0).ii + (1 : Int)))]).bindR fun r2 =>
 if (!(((((v1.getD 0 d0).ll).getD ((v1.getD 2 d0).ii).toNat []).getD 1 d0).ss == (r2.getD 0 d0).ss)) = true then
 .ret [.i (-1 : Int)]
 else
 if 81 = 81 ∧ 0 ≤ (v1.getD 2 d0).ii ∧ (v1.getD 2 d0).ii < (((v1.getD 0 d0).ll).length : Int) then
 (r_laws_markText [.i (IntKind.i64.wrap ((IntKind.i64.wrap ((v1.getD 1 d0).ii + (1 : Int))) + (1 : Int)))]).bindR fun r3 =>
 if (!(((((v1.getD 0 d0).ll).getD ((v1.getD 2 d0).ii).toNat []).getD 2 d0).ss == (r3.getD 0 d0).ss)) = true then
 .ret [.i (-1 : Int)]
 else
 .norm [.sl ((v1.getD 0 d0).ll), .i (IntKind.i64.wrap ((IntKind.i64.wrap ((IntKind.i64.wrap ((v1.getD 1 d0).ii + (1 : Int))) + (1 : Int))) + (1 : Int))), .i ((v1.getD 2 d0).ii)]
 else
 .fail
 else
 .fail
 else
 .fail) 1 fun v4 =>
 .norm [.sl ((v4.getD 0 d0).ll), .i ((v4.getD 1 d0).ii), .i (IntKind.i64.wrap ((v4.getD 2 d0).ii + (1 : Int)))]
 else
 .ex 0 [.i ((v1.getD 1 d0).ii)]
noncomputable def E_laws_heldProblemS (a : List DC) : Out :=
 Out.andThenB (Loop E_laws_heldProblemSL1 [.sl ((a.getD 0 d0).ll), .i ((a.getD 1 d0).ii), .i (0 : Int)]) 0 fun v5 =>
 .ret [.i ((v5.getD 0 d0).ii)]
theorem eq_laws_heldProblemS a : r_laws_heldProblemS a = E_laws_heldProblemS a := (Run_eq cfg 26 _ a).trans (by kernel_rfl)
noncomputable def E_laws_szDef (a : List DC) : Out :=
 if (decide ((IntKind.i64.wrap ((a.getD 11 d0).ii - (((a.getD 2 d0).ss).length : Int))) < (0 : Int))) = true then
 .ret [.i (-1 : Int)]
 else
 if (decide ((IntKind.i64.wrap ((IntKind.i64.wrap ((a.getD 11 d0).ii - (((a.getD 2 d0).ss).length : Int))) - (((a.getD 3 d0).ss).length : Int))) < (0 : Int))) = true then
 .ret [.i (-1 : Int)]
 else
 (r_laws_szStringS [.sl ((a.getD 4 d0).ll), .i (IntKind.i64.wrap ((IntKind.i64.wrap ((a.getD 11 d0).ii - (((a.getD 2 d0).ss).length : Int))) - (((a.getD 3 d0).ss).length : Int)))]).bindR fun r1 =>
 if (decide ((r1.getD 0 d0).ii < (0 : Int))) = true then
 .ret [.i (-1 : Int)]
 else
 (r_laws_szFieldDefS [.sl ((a.getD 5 d0).ll), .i ((r1.getD 0 d0).ii)]).bindR fun r2 =>
 if (decide ((r2.getD 0 d0).ii < (0 : Int))) = true then
 .ret [.i (-1 : Int)]
 else
 (r_laws_szInDefS [.sl ((a.getD 6 d0).ll), .i ((r2.getD 0 d0).ii)]).bindR fun r3 =>
 if (decide ((r3.getD 0 d0).ii < (0 : Int))) = true then
 .ret [.i (-1 : Int)]
 else
 (r_laws_szEnumDefS [.sl ((a.getD 7 d0).ll), .i ((r3.getD 0 d0).ii)]).bindR fun r4 =>
 if (decide ((r4.getD 0 d0).ii < (0 : Int))) = true then
 .ret [.i (-1 : Int)]
 else
 (r_laws_szRootS [.sl ((a.getD 8 d0).ll), .i ((r4.getD 0 d0).ii)]).bindR fun r5 =>
 if (decide ((r5.getD 0 d0).ii < (0 : Int))) = true then
 .ret [.i (-1 : Int)]
 else
 (r_laws_szDirS [.sl ((a.getD 10 d0).ll), .i ((r5.getD 0 d0).ii)]).bindR fun r6 =>
 if (decide ((r6.getD 0 d0).ii < (0 : Int))) = true then
 .ret [.i (-1 : Int)]
 else
 .ret [.i ((r6.getD 0 d0).ii)]
theorem eq_laws_szDef a : r_laws_szDef a = E_laws_szDef a := (Run_eq cfg 52 _ a).trans (by kernel_rfl)
noncomputable def E_laws_toDef (a : List DC) : Out :=
 (r_laws_toStringS [.sl ((a.getD 4 d0).ll)]).bindR fun r1 =>
 (r_laws_toFieldDefS [.sl ((a.getD 5 d0).ll)]).bindR fun r2 =>
 (r_laws_toInDefS [.sl ((a.getD 6 d0).ll)]).bindR fun r3 =>
 (r_laws_toEnumDefS [.sl ((a.getD 7 d0).ll)]).bindR fun r4 =>
 (r_laws_toRootS [.sl ((a.getD 8 d0).ll)]).bindR fun r5 =>
 (r_laws_toDirS [.sl ((a.getD 10 d0).ll)]).bindR fun r6 =>
 .ret [.i ((a.getD 0 d0).ii), .b ((a.getD 1 d0).bb), .s ((a.getD 2 d0).ss), .s ((a.getD 3 d0).ss), .sl ((r1.getD 0 d0).ll), .sl ((r2.getD 0 d0).ll), .sl ((r3.getD 0 d0).ll), .sl ((r4.getD 0 d0).ll), .sl ((r5.getD 0 d0).ll), .b ((a.getD 9 d0).bb), .sl ((r6.getD 0 d0).ll)]
theorem eq_laws_toDef a : r_laws_toDef a = E_laws_toDef a := (Run_eq cfg 57 _ a).trans (by kernel_rfl)
noncomputable def E_spec_l16Group (a : List DC) : Out :=
 Out.andThenB (if ((a.getD 0 d0).ii == (7 : Int)) = true then
 .ret [.i (1 : Int)]
 else
 if ((a.getD 0 d0).ii == (8 : Int)) = true then
 .ret [.i (2 : Int)]
 else
 .norm []) 0 fun v1 =>
 .ret [.i (0 : Int)]
theorem eq_spec_l16Group a : r_spec_l16Group a = E_spec_l16Group a := (Run_eq cfg 54 _ a).trans (by kernel_rfl)
noncomputable def E_spec_l16AtL1 : List DC → Out := fun v1 =>
 if (decide ((v1.getD 3 d0).ii < (((v1.getD 0 d0).ll).length : Int))) = true then
 Out.andThenB (Out.andThen (if 84 = 84 ∧ 0 ≤ (v1.getD 3 d0).ii ∧ (v1.getD 3 d0).ii < (((v1.getD 0 d0).ll).length : Int) then
 (r_spec_l16Group [.i (((((v1.getD 0 d0).ll).getD ((v1.getD 3 d0).ii).toNat []).getD 0 d0).ii)]).bindR fun r2 =>
 if ((r2.getD 0 d0).ii == (v1.getD 1 d0).ii) = true then
 if ((v1.getD 1 d0).ii == (2 : Int)) = true then
 .norm [.sl ((v1.getD 0 d0).ll), .i ((v1.getD 1 d0).ii), .s ((v1.getD 2 d0).ss), .i ((v1.getD 3 d0).ii), .b true]
 else
 if 84 = 84 ∧ 0 ≤ (v1.getD 3 d0).ii ∧ (v1.getD 3 d0).ii < (((v1.getD 0 d0).ll).length : Int) then
 .norm [.sl ((v1.getD 0 d0).ll), .i ((v1.getD 1 d0).ii), .s ((v1.getD 2 d0).ss), .i ((v1.getD 3 d0).ii), .b (((((v1.getD 0 d0).ll).getD ((v1.getD 3 d0).ii).toNat []).getD 3 d0).ss == (v1.getD 2 d0).ss)]
 else
 .fail
 else
 .norm [.sl ((v1.getD 0 d0).ll), .i ((v1.getD 1 d0).ii), .s ((v1.getD 2 d0).ss), .i ((v1.getD 3 d0).ii), .b false]
 else
 .fail) fun v3 =>
 if (v3.getD 4 d0).bb = true then
 .ret [.i ((v3.getD 3 d0).ii)]
 else
 .norm [.sl ((v3.getD 0 d0).ll), .i ((v3.getD 1 d0).ii), .s ((v3.getD 2 d0).ss), .i ((v3.getD 3 d0).ii)]) 1 fun v4 =>
 .norm [.sl ((v4.getD 0 d0).ll), .i ((v4.getD 1 d0).ii), .s ((v4.getD 2 d0).ss), .i (IntKind.i64.wrap ((v4.getD 3 d0).ii + (1 : Int)))]
 else
 .ex 0 []
noncomputable def E_spec_l16At (a : List DC) : Out :=
 Out.andThenB (Loop E_spec_l16AtL1 [.sl ((a.getD 0 d0).ll), .i ((a.getD 1 d0).ii), .s ((a.getD 2 d0).ss), .i (0 : Int)]) 0 fun v5 =>
 .ret [.i (-1 : Int)]
theorem eq_spec_l16At a : r_spec_l16At a = E_spec_l16At a := (Run_eq cfg 53 _ a).trans (by kernel_rfl)
noncomputable def E_spec_l13Copy (a : List DC) : Out :=
 if ([] : List (List DC)).length + ((a.getD 4 d0).ll).length < LIM then
 (r_spec_l13CopyFields [.sl ((a.getD 5 d0).ll)]).bindR fun r1 =>
 (r_spec_l13CopyIns [.sl ((a.getD 6 d0).ll)]).bindR fun r2 =>
 (r_spec_l13CopyValues [.sl ((a.getD 7 d0).ll)]).bindR fun r3 =>
 if ([] : List (List DC)).length + ((a.getD 8 d0).ll).length < LIM then
 (r_spec_l10Dirs [.sl ((a.getD 10 d0).ll)]).bindR fun r4 =>
 .ret [.i ((a.getD 0 d0).ii), .b ((a.getD 1 d0).bb), .s ((a.getD 2 d0).ss), .s ((a.getD 3 d0).ss), .sl (([] : List (List DC)) ++ ((a.getD 4 d0).ll)), .sl ((r1.getD 0 d0).ll), .sl ((r2.getD 0 d0).ll), .sl ((r3.getD 0 d0).ll), .sl (([] : List (List DC)) ++ ((a.getD 8 d0).ll)), .b ((a.getD 9 d0).bb), .sl ((r4.getD 0 d0).ll)]
 else
 .fail
 else
 .fail
theorem eq_spec_l13Copy a : r_spec_l13Copy a = E_spec_l13Copy a := (Run_eq cfg 55 _ a).trans (by kernel_rfl)
noncomputable def E_spec_Added (a : List DC) : Out :=
 (r_spec_l13Copy [.i ((a.getD 0 d0).ii), .b ((a.getD 1 d0).bb), .s ((a.getD 2 d0).ss), .s ((a.getD 3 d0).ss), .sl ((a.getD 4 d0).ll), .sl ((a.getD 5 d0).ll), .sl ((a.getD 6 d0).ll), .sl ((a.getD 7 d0).ll), .sl ((a.getD 8 d0).ll), .b ((a.getD 9 d0).bb), .sl ((a.getD 10 d0).ll)]).bindR fun r1 =>
 (r_spec_l13Copy [.i ((a.getD 11 d0).ii), .b ((a.getD 12 d0).bb), .s ((a.getD 13 d0).ss), .s ((a.getD 14 d0).ss), .sl ((a.getD 15 d0).ll), .sl ((a.getD 16 d0).ll), .sl ((a.getD 17 d0).ll), .sl ((a.getD 18 d0).ll), .sl ((a.getD 19 d0).ll), .b ((a.getD 20 d0).bb), .sl ((a.getD 21 d0).ll)]).bindR fun r2 =>
 if ((r1.getD 4 d0).ll).length + ((r2.getD 4 d0).ll).length < LIM then
 if ((r1.getD 5 d0).ll).length + ((r2.getD 5 d0).ll).length < LIM ∧ 63 = 63 then
 if ((r1.getD 6 d0).ll).length + ((r2.getD 6 d0).ll).length < LIM ∧ 27 = 27 then
 if ((r1.getD 7 d0).ll).length + ((r2.getD 7 d0).ll).length < LIM ∧ 82 = 82 then
 if ((r1.getD 8 d0).ll).length + ((r2.getD 8 d0).ll).length < LIM then
 if ((r1.getD 10 d0).ll).length + ((r2.getD 10 d0).ll).length < LIM ∧ 30 = 30 then
 .ret [.i ((r1.getD 0 d0).ii), .b ((r1.getD 1 d0).bb), .s ((r1.getD 2 d0).ss), .s ((r1.getD 3 d0).ss), .sl (((r1.getD 4 d0).ll) ++ ((r2.getD 4 d0).ll)), .sl (((r1.getD 5 d0).ll) ++ ((r2.getD 5 d0).ll)), .sl (((r1.getD 6 d0).ll) ++ ((r2.getD 6 d0).ll)), .sl (((r1.getD 7 d0).ll) ++ ((r2.getD 7 d0).ll)), .sl (((r1.getD 8 d0).ll) ++ ((r2.getD 8 d0).ll)), .b ((r1.getD 9 d0).bb), .sl (((r1.getD 10 d0).ll) ++ ((r2.getD 10 d0).ll))]
 else
 .fail
 else
 .fail
 else
 .fail
 else
 .fail
 else
 .fail
 else
 .fail
theorem eq_spec_Added a : r_spec_Added a = E_spec_Added a := (Run_eq cfg 56 _ a).trans (by kernel_rfl)
noncomputable def E_impl_cloneDef (a : List DC) : Out :=
 (r_slices_Clone_string [.sl ((a.getD 4 d0).ll)]).bindR fun r1 =>
 (r_impl_cloneFields [.sl ((a.getD 5 d0).ll)]).bindR fun r2 =>
 (r_impl_cloneIns [.sl ((a.getD 6 d0).ll)]).bindR fun r3 =>
 (r_impl_cloneEnums [.sl ((a.getD 7 d0).ll)]).bindR fun r4 =>
 (r_slices_Clone_impl_Root [.sl ((a.getD 8 d0).ll)]).bindR fun r5 =>
 (r_impl_cloneDirs [.sl ((a.getD 10 d0).ll)]).bindR fun r6 =>
 .ret [.i ((a.getD 0 d0).ii), .b ((a.getD 1 d0).bb), .s ((a.getD 2 d0).ss), .s ((a.getD 3 d0).ss), .sl ((r1.getD 0 d0).ll), .sl ((r2.getD 0 d0).ll), .sl ((r3.getD 0 d0).ll), .sl ((r4.getD 0 d0).ll), .sl ((r5.getD 0 d0).ll), .b ((a.getD 9 d0).bb), .sl ((r6.getD 0 d0).ll)]
theorem eq_impl_cloneDef a : r_impl_cloneDef a = E_impl_cloneDef a := (Run_eq cfg 61 _ a).trans (by kernel_rfl)
noncomputable def E_impl_Added (a : List DC) : Out :=
 (r_impl_cloneDef [.i ((a.getD 0 d0).ii), .b ((a.getD 1 d0).bb), .s ((a.getD 2 d0).ss), .s ((a.getD 3 d0).ss), .sl ((a.getD 4 d0).ll), .sl ((a.getD 5 d0).ll), .sl ((a.getD 6 d0).ll), .sl ((a.getD 7 d0).ll), .sl ((a.getD 8 d0).ll), .b ((a.getD 9 d0).bb), .sl ((a.getD 10 d0).ll)]).bindR fun r1 =>
 (r_impl_cloneDef [.i ((a.getD 11 d0).ii), .b ((a.getD 12 d0).bb), .s ((a.getD 13 d0).ss), .s ((a.getD 14 d0).ss), .sl ((a.getD 15 d0).ll), .sl ((a.getD 16 d0).ll), .sl ((a.getD 17 d0).ll), .sl ((a.getD 18 d0).ll), .sl ((a.getD 19 d0).ll), .b ((a.getD 20 d0).bb), .sl ((a.getD 21 d0).ll)]).bindR fun r2 =>
 if ((r1.getD 4 d0).ll).length + ((r2.getD 4 d0).ll).length < LIM then
 if ((r1.getD 5 d0).ll).length + ((r2.getD 5 d0).ll).length < LIM ∧ 63 = 63 then
 if ((r1.getD 6 d0).ll).length + ((r2.getD 6 d0).ll).length < LIM ∧ 27 = 27 then
 if ((r1.getD 7 d0).ll).length + ((r2.getD 7 d0).ll).length < LIM ∧ 82 = 82 then
 if ((r1.getD 8 d0).ll).length + ((r2.getD 8 d0).ll).length < LIM then
 if ((r1.getD 10 d0).ll).length + ((r2.getD 10 d0).ll).length < LIM ∧ 30 = 30 then
 .ret [.i ((r1.getD 0 d0).ii), .b ((r1.getD 1 d0).bb), .s ((r1.getD 2 d0).ss), .s ((r1.getD 3 d0).ss), .sl (((r1.getD 4 d0).ll) ++ ((r2.getD 4 d0).ll)), .sl (((r1.getD 5 d0).ll) ++ ((r2.getD 5 d0).ll)), .sl (((r1.getD 6 d0).ll) ++ ((r2.getD 6 d0).ll)), .sl (((r1.getD 7 d0).ll) ++ ((r2.getD 7 d0).ll)), .sl (((r1.getD 8 d0).ll) ++ ((r2.getD 8 d0).ll)), .b ((r1.getD 9 d0).bb), .sl (((r1.getD 10 d0).ll) ++ ((r2.getD 10 d0).ll))]
 else
 .fail
 else
 .fail
 else
 .fail
 else
 .fail
 else
 .fail
 else
 .fail
theorem eq_impl_Added a : r_impl_Added a = E_impl_Added a := (Run_eq cfg 64 _ a).trans (by kernel_rfl)
noncomputable def E_laws_eqDef (a : List DC) : Out :=
 if ((a.getD 0 d0).ii != (a.getD 11 d0).ii) = true then
 .ret [.b false]
 else
 if (!((a.getD 1 d0).bb == (a.getD 12 d0).bb)) = true then
 .ret [.b false]
 else
 if (!((a.getD 2 d0).ss == (a.getD 13 d0).ss)) = true then
 .ret [.b false]
 else
 if (!((a.getD 3 d0).ss == (a.getD 14 d0).ss)) = true then
 .ret [.b false]
 else
 (r_laws_eqStringS [.sl ((a.getD 4 d0).ll), .sl ((a.getD 15 d0).ll)]).bindR fun r1 =>
 if (!((r1.getD 0 d0).bb)) = true then
 .ret [.b false]
 else
 (r_laws_eqFieldDefS [.sl ((a.getD 5 d0).ll), .sl ((a.getD 16 d0).ll)]).bindR fun r2 =>
 if (!((r2.getD 0 d0).bb)) = true then
 .ret [.b false]
 else
 (r_laws_eqInDefS [.sl ((a.getD 6 d0).ll), .sl ((a.getD 17 d0).ll)]).bindR fun r3 =>
 if (!((r3.getD 0 d0).bb)) = true then
 .ret [.b false]
 else
 (r_laws_eqEnumDefS [.sl ((a.getD 7 d0).ll), .sl ((a.getD 18 d0).ll)]).bindR fun r4 =>
 if (!((r4.getD 0 d0).bb)) = true then
 .ret [.b false]
 else
 (r_laws_eqRootS [.sl ((a.getD 8 d0).ll), .sl ((a.getD 19 d0).ll)]).bindR fun r5 =>
 if (!((r5.getD 0 d0).bb)) = true then
 .ret [.b false]
 else
 if (!((a.getD 9 d0).bb == (a.getD 20 d0).bb)) = true then
 .ret [.b false]
 else
 (r_laws_eqDirS [.sl ((a.getD 10 d0).ll), .sl ((a.getD 21 d0).ll)]).bindR fun r6 =>
 if (!((r6.getD 0 d0).bb)) = true then
 .ret [.b false]
 else
 .ret [.b true]
theorem eq_laws_eqDef a : r_laws_eqDef a = E_laws_eqDef a := (Run_eq cfg 65 _ a).trans (by kernel_rfl)
noncomputable def E_laws_eqProblem (a : List DC) : Out :=
 if ((a.getD 0 d0).ii != (a.getD 3 d0).ii) = true then
 .ret [.b false]
 else
 if (!((a.getD 1 d0).ss == (a.getD 4 d0).ss)) = true then
 .ret [.b false]
 else
 if (!((a.getD 2 d0).ss == (a.getD 5 d0).ss)) = true then
 .ret [.b false]
 else
 .ret [.b true]
theorem eq_laws_eqProblem a : r_laws_eqProblem a = E_laws_eqProblem a := (Run_eq cfg 66 _ a).trans (by kernel_rfl)
theorem eq_laws_markText a : r_laws_markText a = E_laws_markText a := (Run_eq cfg 67 _ a).trans (by kernel_rfl)
noncomputable def E_laws_heldStringSL1 : List DC → Out := fun v1 =>
 if (decide ((v1.getD 2 d0).ii < (((v1.getD 0 d0).ll).length : Int))) = true then
 Out.andThenB (if 9 = 9 ∧ 0 ≤ (v1.getD 2 d0).ii ∧ (v1.getD 2 d0).ii < (((v1.getD 0 d0).ll).length : Int) then
 (r_laws_markText [.i ((v1.getD 1 d0).ii)]).bindR fun r2 =>
 if (!(((((v1.getD 0 d0).ll).getD ((v1.getD 2 d0).ii).toNat []).getD 0 d0).ss == (r2.getD 0 d0).ss)) = true then
 .ret [.i (-1 : Int)]
 else
 .norm [.sl ((v1.getD 0 d0).ll), .i (IntKind.i64.wrap ((v1.getD 1 d0).ii + (1 : Int))), .i ((v1.getD 2 d0).ii)]
 else
 .fail) 1 fun v3 =>
 .norm [.sl ((v3.getD 0 d0).ll), .i ((v3.getD 1 d0).ii), .i (IntKind.i64.wrap ((v3.getD 2 d0).ii + (1 : Int)))]
 else
 .ex 0 [.i ((v1.getD 1 d0).ii)]
noncomputable def E_laws_heldStringS (a : List DC) : Out :=
 Out.andThenB (Loop E_laws_heldStringSL1 [.sl ((a.getD 0 d0).ll), .i ((a.getD 1 d0).ii), .i (0 : Int)]) 0 fun v4 =>
 .ret [.i ((v4.getD 0 d0).ii)]
theorem eq_laws_heldStringS a : r_laws_heldStringS a = E_laws_heldStringS a := (Run_eq cfg 31 _ a).trans (by kernel_rfl)
noncomputable def E_laws_heldFieldDefSL1 : List DC → Out := fun v1 =>
 if (decide ((v1.getD 2 d0).ii < (((v1.getD 0 d0).ll).length : Int))) = true then
 Out.andThenB (if 32 = 32 ∧ 0 ≤ (v1.getD 2 d0).ii ∧ (v1.getD 2 d0).ii < (((v1.getD 0 d0).ll).length : Int) then
 (r_laws_markText [.i ((v1.getD 1 d0).ii)]).bindR fun r2 =>
 if (!(((((v1.getD 0 d0).ll).getD ((v1.getD 2 d0).ii).toNat []).getD 0 d0).ss == (r2.getD 0 d0).ss)) = true then
 .ret [.i (-1 : Int)]
 else
 if 32 = 32 ∧ 0 ≤ (v1.getD 2 d0).ii ∧ (v1.getD 2 d0).ii < (((v1.getD 0 d0).ll).length : Int) then
 (r_laws_markText [.i (IntKind.i64.wrap ((v1.getD 1 d0).ii + (1 : Int)))]).bindR fun r3 =>
 if (!(((((v1.getD 0 d0).ll).getD ((v1.getD 2 d0).ii).toNat []).getD 1 d0).ss == (r3.getD 0 d0).ss)) = true then
 .ret [.i (-1 : Int)]
 else
 if 32 = 32 ∧ 0 ≤ (v1.getD 2 d0).ii ∧ (v1.getD 2 d0).ii < (((v1.getD 0 d0).ll).length : Int) then
 (r_laws_heldInDefS [.sl (((((v1.getD 0 d0).ll).getD ((v1.getD 2 d0).ii).toNat []).getD 2 d0).ll), .i (IntKind.i64.wrap ((IntKind.i64.wrap ((v1.getD 1 d0).ii + (1 : Int))) + (1 : Int)))]).bindR fun r4 =>
 if (decide ((r4.getD 0 d0).ii < (0 : Int))) = true then
 .ret [.i (-1 : Int)]
 else
 if 32 = 32 ∧ 0 ≤ (v1.getD 2 d0).ii ∧ (v1.getD 2 d0).ii < (((v1.getD 0 d0).ll).length : Int) then
 (r_laws_markText [.i ((r4.getD 0 d0).ii)]).bindR fun r5 =>
 if (!(((((v1.getD 0 d0).ll).getD ((v1.getD 2 d0).ii).toNat []).getD 3 d0).ss == (r5.getD 0 d0).ss)) = true then
 .ret [.i (-1 : Int)]
 else
 if 32 = 32 ∧ 0 ≤ (v1.getD 2 d0).ii ∧ (v1.getD 2 d0).ii < (((v1.getD 0 d0).ll).length : Int) then
 (r_laws_markText [.i (IntKind.i64.wrap ((r4.getD 0 d0).ii + (1 : Int)))]).bindR fun r6 =>
 if (!(((((v1.getD 0 d0).ll).getD ((v1.getD 2 d0).ii).toNat []).getD 4 d0).ss == (r6.getD 0 d0).ss)) = true then
 .ret [.i (-1 : Int)]
 else
 if 32 = 32 ∧ 0 ≤ (v1.getD 2 d0).ii ∧ (v1.getD 2 d0).ii < (((v1.getD 0 d0).ll).length : Int) then
 (r_laws_heldDirS [.sl (((((v1.getD 0 d0).ll).getD ((v1.getD 2 d0).ii).toNat []).getD 5 d0).ll), .i (IntKind.i64.wrap ((IntKind.i64.wrap ((r4.getD 0 d0).ii + (1 : Int))) + (1 : Int)))]).bindR fun r7 =>
 if (decide ((r7.getD 0 d0).ii < (0 : Int))) = true then
 .ret [.i (-1 : Int)]
 else
 .norm [.sl ((v1.getD 0 d0).ll), .i ((r7.getD 0 d0).ii), .i ((v1.getD 2 d0).ii)]
 else
 .fail
 else
 .fail
 else
 .fail
 else
 .fail
 else
 .fail
 else
 .fail) 1 fun v8 =>
 .norm [.sl ((v8.getD 0 d0).ll), .i ((v8.getD 1 d0).ii), .i (IntKind.i64.wrap ((v8.getD 2 d0).ii + (1 : Int)))]
 else
 .ex 0 [.i ((v1.getD 1 d0).ii)]
noncomputable def E_laws_heldFieldDefS (a : List DC) : Out :=
 Out.andThenB (Loop E_laws_heldFieldDefSL1 [.sl ((a.getD 0 d0).ll), .i ((a.getD 1 d0).ii), .i (0 : Int)]) 0 fun v9 =>
 .ret [.i ((v9.getD 0 d0).ii)]
theorem eq_laws_heldFieldDefS a : r_laws_heldFieldDefS a = E_laws_heldFieldDefS a := (Run_eq cfg 70 _ a).trans (by kernel_rfl)
noncomputable def E_laws_heldInDefSL1 : List DC → Out := fun v1 =>
 if (decide ((v1.getD 2 d0).ii < (((v1.getD 0 d0).ll).length : Int))) = true then
 Out.andThenB (if 123 = 123 ∧ 0 ≤ (v1.getD 2 d0).ii ∧ (v1.getD 2 d0).ii < (((v1.getD 0 d0).ll).length : Int) then
 (r_laws_markText [.i ((v1.getD 1 d0).ii)]).bindR fun r2 =>
 if (!(((((v1.getD 0 d0).ll).getD ((v1.getD 2 d0).ii).toNat []).getD 0 d0).ss == (r2.getD 0 d0).ss)) = true then
 .ret [.i (-1 : Int)]
 else
 if 123 = 123 ∧ 0 ≤ (v1.getD 2 d0).ii ∧ (v1.getD 2 d0).ii < (((v1.getD 0 d0).ll).length : Int) then
 (r_laws_markText [.i (IntKind.i64.wrap ((v1.getD 1 d0).ii + (1 : Int)))]).bindR fun r3 =>
 if (!(((((v1.getD 0 d0).ll).getD ((v1.getD 2 d0).ii).toNat []).getD 1 d0).ss == (r3.getD 0 d0).ss)) = true then
 .ret [.i (-1 : Int)]
 else
 if 123 = 123 ∧ 0 ≤ (v1.getD 2 d0).ii ∧ (v1.getD 2 d0).ii < (((v1.getD 0 d0).ll).length : Int) then
 (r_laws_markText [.i (IntKind.i64.wrap ((IntKind.i64.wrap ((v1.getD 1 d0).ii + (1 : Int))) + (1 : Int)))]).bindR fun r4 =>
 if (!(((((v1.getD 0 d0).ll).getD ((v1.getD 2 d0).ii).toNat []).getD 2 d0).ss == (r4.getD 0 d0).ss)) = true then
 .ret [.i (-1 : Int)]
 else
 if 123 = 123 ∧ 0 ≤ (v1.getD 2 d0).ii ∧ (v1.getD 2 d0).ii < (((v1.getD 0 d0).ll).length : Int) then
 (r_laws_markText [.i (IntKind.i64.wrap ((IntKind.i64.wrap ((IntKind.i64.wrap ((v1.getD 1 d0).ii + (1 : Int))) + (1 : Int))) + (1 : Int)))]).bindR fun r5 =>
 if (!(((((v1.getD 0 d0).ll).getD ((v1.getD 2 d0).ii).toNat []).getD 3 d0).ss == (r5.getD 0 d0).ss)) = true then
 .ret [.i (-1 : Int)]
 else
 if 123 = 123 ∧ 0 ≤ (v1.getD 2 d0).ii ∧ (v1.getD 2 d0).ii < (((v1.getD 0 d0).ll).length : Int) then
 if (3 : Int) = 0 then
 .fail
 else
 if (!(((((v1.getD 0 d0).ll).getD ((v1.getD 2 d0).ii).toNat []).getD 4 d0).bb == (((IntKind.i64.wrap ((IntKind.i64.wrap ((IntKind.i64.wrap ((IntKind.i64.wrap ((v1.getD 1 d0).ii + (1 : Int))) + (1 : Int))) + (1 : Int))) + (1 : Int))).tmod (3 : Int)) == (0 : Int)))) = true then
 .ret [.i (-1 : Int)]
 else
 if 123 = 123 ∧ 0 ≤ (v1.getD 2 d0).ii ∧ (v1.getD 2 d0).ii < (((v1.getD 0 d0).ll).length : Int) then
 if (((((v1.getD 0 d0).ll).getD ((v1.getD 2 d0).ii).toNat []).getD 5 d0).ii != (IntKind.i64.wrap ((IntKind.i64.wrap ((IntKind.i64.wrap ((IntKind.i64.wrap ((IntKind.i64.wrap ((v1.getD 1 d0).ii + (1 : Int))) + (1 : Int))) + (1 : Int))) + (1 : Int))) + (1 : Int)))) = true then
 .ret [.i (-1 : Int)]
 else
 if 123 = 123 ∧ 0 ≤ (v1.getD 2 d0).ii ∧ (v1.getD 2 d0).ii < (((v1.getD 0 d0).ll).length : Int) then
 (r_laws_markText [.i (IntKind.i64.wrap ((IntKind.i64.wrap ((IntKind.i64.wrap ((IntKind.i64.wrap ((IntKind.i64.wrap ((IntKind.i64.wrap ((v1.getD 1 d0).ii + (1 : Int))) + (1 : Int))) + (1 : Int))) + (1 : Int))) + (1 : Int))) + (1 : Int)))]).bindR fun r6 =>
 if (!(((((v1.getD 0 d0).ll).getD ((v1.getD 2 d0).ii).toNat []).getD 6 d0).ss == (r6.getD 0 d0).ss)) = true then
 .ret [.i (-1 : Int)]
 else
 if 123 = 123 ∧ 0 ≤ (v1.getD 2 d0).ii ∧ (v1.getD 2 d0).ii < (((v1.getD 0 d0).ll).length : Int) then
 (r_laws_heldValueS [.sl (((((v1.getD 0 d0).ll).getD ((v1.getD 2 d0).ii).toNat []).getD 7 d0).ll), .i (IntKind.i64.wrap ((IntKind.i64.wrap ((IntKind.i64.wrap ((IntKind.i64.wrap ((IntKind.i64.wrap ((IntKind.i64.wrap ((IntKind.i64.wrap ((v1.getD 1 d0).ii + (1 : Int))) + (1 : Int))) + (1 : Int))) + (1 : Int))) + (1 : Int))) + (1 : Int))) + (1 : Int)))]).bindR fun r7 =>
 if (decide ((r7.getD 0 d0).ii < (0 : Int))) = true then
 .ret [.i (-1 : Int)]
 else
 if 123 = 123 ∧ 0 ≤ (v1.getD 2 d0).ii ∧ (v1.getD 2 d0).ii < (((v1.getD 0 d0).ll).length : Int) then
 (r_laws_heldStringS [.sl (((((v1.getD 0 d0).ll).getD ((v1.getD 2 d0).ii).toNat []).getD 8 d0).ll), .i ((r7.getD 0 d0).ii)]).bindR fun r8 =>
 if (decide ((r8.getD 0 d0).ii < (0 : Int))) = true then
 .ret [.i (-1 : Int)]
 else
 if 123 = 123 ∧ 0 ≤ (v1.getD 2 d0).ii ∧ (v1.getD 2 d0).ii < (((v1.getD 0 d0).ll).length : Int) then
 (r_laws_heldDirS [.sl (((((v1.getD 0 d0).ll).getD ((v1.getD 2 d0).ii).toNat []).getD 9 d0).ll), .i ((r8.getD 0 d0).ii)]).bindR fun r9 =>
 if (decide ((r9.getD 0 d0).ii < (0 : Int))) = true then
 .ret [.i (-1 : Int)]
 else
 .norm [.sl ((v1.getD 0 d0).ll), .i ((r9.getD 0 d0).ii), .i ((v1.getD 2 d0).ii)]
 else
 .fail
 else
 .fail
 else
 .fail
 else
 .fail
 else
 .fail
 else
 .fail
 else
 .fail
 else
 .fail
 else
 .fail
 else
 .fail) 1 fun v10 =>
 .norm [.sl ((v10.getD 0 d0).ll), .i ((v10.getD 1 d0).ii), .i (IntKind.i64.wrap ((v10.getD 2 d0).ii + (1 : Int)))]
 else
 .ex 0 [.i ((v1.getD 1 d0).ii)]
noncomputable def E_laws_heldInDefS (a : List DC) : Out :=
 Out.andThenB (Loop E_laws_heldInDefSL1 [.sl ((a.getD 0 d0).ll), .i ((a.getD 1 d0).ii), .i (0 : Int)]) 0 fun v11 =>
 .ret [.i ((v11.getD 0 d0).ii)]
theorem eq_laws_heldInDefS a : r_laws_heldInDefS a = E_laws_heldInDefS a := (Run_eq cfg 50 _ a).trans (by kernel_rfl)
noncomputable def E_laws_heldEnumDefSL1 : List DC → Out := fun v1 =>
 if (decide ((v1.getD 2 d0).ii < (((v1.getD 0 d0).ll).length : Int))) = true then
 Out.andThenB (if 145 = 145 ∧ 0 ≤ (v1.getD 2 d0).ii ∧ (v1.getD 2 d0).ii < (((v1.getD 0 d0).ll).length : Int) then
 (r_laws_markText [.i ((v1.getD 1 d0).ii)]).bindR fun r2 =>
 if (!(((((v1.getD 0 d0).ll).getD ((v1.getD 2 d0).ii).toNat []).getD 0 d0).ss == (r2.getD 0 d0).ss)) = true then
 .ret [.i (-1 : Int)]
 else
 if 145 = 145 ∧ 0 ≤ (v1.getD 2 d0).ii ∧ (v1.getD 2 d0).ii < (((v1.getD 0 d0).ll).length : Int) then
 (r_laws_markText [.i (IntKind.i64.wrap ((v1.getD 1 d0).ii + (1 : Int)))]).bindR fun r3 =>
 if (!(((((v1.getD 0 d0).ll).getD ((v1.getD 2 d0).ii).toNat []).getD 1 d0).ss == (r3.getD 0 d0).ss)) = true then
 .ret [.i (-1 : Int)]
 else
 if 145 = 145 ∧ 0 ≤ (v1.getD 2 d0).ii ∧ (v1.getD 2 d0).ii < (((v1.getD 0 d0).ll).length : Int) then
 (r_laws_heldDirS [.sl (((((v1.getD 0 d0).ll).getD ((v1.getD 2 d0).ii).toNat []).getD 2 d0).ll), .i (IntKind.i64.wrap ((IntKind.i64.wrap ((v1.getD 1 d0).ii + (1 : Int))) + (1 : Int)))]).bindR fun r4 =>
 if (decide ((r4.getD 0 d0).ii < (0 : Int))) = true then
 .ret [.i (-1 : Int)]
 else
 .norm [.sl ((v1.getD 0 d0).ll), .i ((r4.getD 0 d0).ii), .i ((v1.getD 2 d0).ii)]
 else
 .fail
 else
 .fail
 else
 .fail) 1 fun v5 =>
 .norm [.sl ((v5.getD 0 d0).ll), .i ((v5.getD 1 d0).ii), .i (IntKind.i64.wrap ((v5.getD 2 d0).ii + (1 : Int)))]
 else
 .ex 0 [.i ((v1.getD 1 d0).ii)]
noncomputable def E_laws_heldEnumDefS (a : List DC) : Out :=
 Out.andThenB (Loop E_laws_heldEnumDefSL1 [.sl ((a.getD 0 d0).ll), .i ((a.getD 1 d0).ii), .i (0 : Int)]) 0 fun v6 =>
 .ret [.i ((v6.getD 0 d0).ii)]
theorem eq_laws_heldEnumDefS a : r_laws_heldEnumDefS a = E_laws_heldEnumDefS a := (Run_eq cfg 71 _ a).trans (by kernel_rfl)
noncomputable def E_laws_heldRootSL1 : List DC → Out := fun v1 =>
 if (decide ((v1.getD 2 d0).ii < (((v1.getD 0 d0).ll).length : Int))) = true then
 Out.andThenB (if 109 = 109 ∧ 0 ≤ (v1.getD 2 d0).ii ∧ (v1.getD 2 d0).ii < (((v1.getD 0 d0).ll).length : Int) then
 if (((((v1.getD 0 d0).ll).getD ((v1.getD 2 d0).ii).toNat []).getD 0 d0).ii != (v1.getD 1 d0).ii) = true then
 .ret [.i (-1 : Int)]
 else
 if 109 = 109 ∧ 0 ≤ (v1.getD 2 d0).ii ∧ (v1.getD 2 d0).ii < (((v1.getD 0 d0).ll).length : Int) then
 (r_laws_markText [.i (IntKind.i64.wrap ((v1.getD 1 d0).ii + (1 : Int)))]).bindR fun r2 =>
 if (!(((((v1.getD 0 d0).ll).getD ((v1.getD 2 d0).ii).toNat []).getD 1 d0).ss == (r2.getD 0 d0).ss)) = true then
 .ret [.i (-1 : Int)]
 else
 .norm [.sl ((v1.getD 0 d0).ll), .i (IntKind.i64.wrap ((IntKind.i64.wrap ((v1.getD 1 d0).ii + (1 : Int))) + (1 : Int))), .i ((v1.getD 2 d0).ii)]
 else
 .fail
 else
 .fail) 1 fun v3 =>
 .norm [.sl ((v3.getD 0 d0).ll), .i ((v3.getD 1 d0).ii), .i (IntKind.i64.wrap ((v3.getD 2 d0).ii + (1 : Int)))]
 else
 .ex 0 [.i ((v1.getD 1 d0).ii)]
noncomputable def E_laws_heldRootS (a : List DC) : Out :=
 Out.andThenB (Loop E_laws_heldRootSL1 [.sl ((a.getD 0 d0).ll), .i ((a.getD 1 d0).ii), .i (0 : Int)]) 0 fun v4 =>
 .ret [.i ((v4.getD 0 d0).ii)]
theorem eq_laws_heldRootS a : r_laws_heldRootS a = E_laws_heldRootS a := (Run_eq cfg 72 _ a).trans (by kernel_rfl)
noncomputable def E_laws_heldDirSL1 : List DC → Out := fun v1 =>
 if (decide ((v1.getD 2 d0).ii < (((v1.getD 0 d0).ll).length : Int))) = true then
 Out.andThenB (if 127 = 127 ∧ 0 ≤ (v1.getD 2 d0).ii ∧ (v1.getD 2 d0).ii < (((v1.getD 0 d0).ll).length : Int) then
 (r_laws_markText [.i ((v1.getD 1 d0).ii)]).bindR fun r2 =>
 if (!(((((v1.getD 0 d0).ll).getD ((v1.getD 2 d0).ii).toNat []).getD 0 d0).ss == (r2.getD 0 d0).ss)) = true then
 .ret [.i (-1 : Int)]
 else
 if 127 = 127 ∧ 0 ≤ (v1.getD 2 d0).ii ∧ (v1.getD 2 d0).ii < (((v1.getD 0 d0).ll).length : Int) then
 (r_laws_heldArgS [.sl (((((v1.getD 0 d0).ll).getD ((v1.getD 2 d0).ii).toNat []).getD 1 d0).ll), .i (IntKind.i64.wrap ((v1.getD 1 d0).ii + (1 : Int)))]).bindR fun r3 =>
 if (decide ((r3.getD 0 d0).ii < (0 : Int))) = true then
 .ret [.i (-1 : Int)]
 else
 .norm [.sl ((v1.getD 0 d0).ll), .i ((r3.getD 0 d0).ii), .i ((v1.getD 2 d0).ii)]
 else
 .fail
 else
 .fail) 1 fun v4 =>
 .norm [.sl ((v4.getD 0 d0).ll), .i ((v4.getD 1 d0).ii), .i (IntKind.i64.wrap ((v4.getD 2 d0).ii + (1 : Int)))]
 else
 .ex 0 [.i ((v1.getD 1 d0).ii)]
noncomputable def E_laws_heldDirS (a : List DC) : Out :=
 Out.andThenB (Loop E_laws_heldDirSL1 [.sl ((a.getD 0 d0).ll), .i ((a.getD 1 d0).ii), .i (0 : Int)]) 0 fun v5 =>
 .ret [.i ((v5.getD 0 d0).ii)]
theorem eq_laws_heldDirS a : r_laws_heldDirS a = E_laws_heldDirS a := (Run_eq cfg 51 _ a).trans (by kernel_rfl)
noncomputable def E_laws_szStringSL1 : List DC → Out := fun v1 =>
 if (decide ((v1.getD 2 d0).ii < (((v1.getD 0 d0).ll).length : Int))) = true then
 Out.andThenB (if 9 = 9 ∧ 0 ≤ (v1.getD 2 d0).ii ∧ (v1.getD 2 d0).ii < (((v1.getD 0 d0).ll).length : Int) then
 if (decide ((IntKind.i64.wrap ((v1.getD 1 d0).ii - ((((((v1.getD 0 d0).ll).getD ((v1.getD 2 d0).ii).toNat []).getD 0 d0).ss).length : Int))) < (0 : Int))) = true then
 .ret [.i (-1 : Int)]
 else
 .norm [.sl ((v1.getD 0 d0).ll), .i (IntKind.i64.wrap ((v1.getD 1 d0).ii - ((((((v1.getD 0 d0).ll).getD ((v1.getD 2 d0).ii).toNat []).getD 0 d0).ss).length : Int))), .i ((v1.getD 2 d0).ii)]
 else
 .fail) 1 fun v2 =>
 .norm [.sl ((v2.getD 0 d0).ll), .i ((v2.getD 1 d0).ii), .i (IntKind.i64.wrap ((v2.getD 2 d0).ii + (1 : Int)))]
 else
 .ex 0 [.i ((v1.getD 1 d0).ii)]
noncomputable def E_laws_szStringS (a : List DC) : Out :=
 if (decide ((IntKind.i64.wrap ((a.getD 1 d0).ii - (((a.getD 0 d0).ll).length : Int))) < (0 : Int))) = true then
 .ret [.i (-1 : Int)]
 else
 Out.andThenB (Loop E_laws_szStringSL1 [.sl ((a.getD 0 d0).ll), .i (IntKind.i64.wrap ((a.getD 1 d0).ii - (((a.getD 0 d0).ll).length : Int))), .i (0 : Int)]) 0 fun v3 =>
 .ret [.i ((v3.getD 0 d0).ii)]
theorem eq_laws_szStringS a : r_laws_szStringS a = E_laws_szStringS a := (Run_eq cfg 103 _ a).trans (by kernel_rfl)
noncomputable def E_laws_szFieldDefSL1 : List DC → Out := fun v1 =>
 if (decide ((v1.getD 2 d0).ii < (((v1.getD 0 d0).ll).length : Int))) = true then
 Out.andThenB (if 164 = 164 ∧ 0 ≤ (v1.getD 2 d0).ii ∧ (v1.getD 2 d0).ii < (((v1.getD 0 d0).ll).length : Int) then
 (r_laws_szFieldDef [.s (((((v1.getD 0 d0).ll).getD ((v1.getD 2 d0).ii).toNat []).getD 0 d0).ss), .s (((((v1.getD 0 d0).ll).getD ((v1.getD 2 d0).ii).toNat []).getD 1 d0).ss), .sl (((((v1.getD 0 d0).ll).getD ((v1.getD 2 d0).ii).toNat []).getD 2 d0).ll), .s (((((v1.getD 0 d0).ll).getD ((v1.getD 2 d0).ii).toNat []).getD 3 d0).ss), .s (((((v1.getD 0 d0).ll).getD ((v1.getD 2 d0).ii).toNat []).getD 4 d0).ss), .sl (((((v1.getD 0 d0).ll).getD ((v1.getD 2 d0).ii).toNat []).getD 5 d0).ll), .i ((v1.getD 1 d0).ii)]).bindR fun r2 =>
 if (decide ((r2.getD 0 d0).ii < (0 : Int))) = true then
 .ret [.i (-1 : Int)]
 else
 .norm [.sl ((v1.getD 0 d0).ll), .i ((r2.getD 0 d0).ii), .i ((v1.getD 2 d0).ii)]
 else
 .fail) 1 fun v3 =>
 .norm [.sl ((v3.getD 0 d0).ll), .i ((v3.getD 1 d0).ii), .i (IntKind.i64.wrap ((v3.getD 2 d0).ii + (1 : Int)))]
 else
 .ex 0 [.i ((v1.getD 1 d0).ii)]
noncomputable def E_laws_szFieldDefS (a : List DC) : Out :=
 if (decide ((IntKind.i64.wrap ((a.getD 1 d0).ii - (((a.getD 0 d0).ll).length : Int))) < (0 : Int))) = true then
 .ret [.i (-1 : Int)]
 else
 Out.andThenB (Loop E_laws_szFieldDefSL1 [.sl ((a.getD 0 d0).ll), .i (IntKind.i64.wrap ((a.getD 1 d0).ii - (((a.getD 0 d0).ll).length : Int))), .i (0 : Int)]) 0 fun v4 =>
 .ret [.i ((v4.getD 0 d0).ii)]
theorem eq_laws_szFieldDefS a : r_laws_szFieldDefS a = E_laws_szFieldDefS a := (Run_eq cfg 104 _ a).trans (by kernel_rfl)
noncomputable def E_laws_szInDefSL1 : List DC → Out := fun v1 =>
 if (decide ((v1.getD 2 d0).ii < (((v1.getD 0 d0).ll).length : Int))) = true then
 Out.andThenB (if 170 = 170 ∧ 0 ≤ (v1.getD 2 d0).ii ∧ (v1.getD 2 d0).ii < (((v1.getD 0 d0).ll).length : Int) then
 (r_laws_szInDef [.s (((((v1.getD 0 d0).ll).getD ((v1.getD 2 d0).ii).toNat []).getD 0 d0).ss), .s (((((v1.getD 0 d0).ll).getD ((v1.getD 2 d0).ii).toNat []).getD 1 d0).ss), .s (((((v1.getD 0 d0).ll).getD ((v1.getD 2 d0).ii).toNat []).getD 2 d0).ss), .s (((((v1.getD 0 d0).ll).getD ((v1.getD 2 d0).ii).toNat []).getD 3 d0).ss), .b (((((v1.getD 0 d0).ll).getD ((v1.getD 2 d0).ii).toNat []).getD 4 d0).bb), .i (((((v1.getD 0 d0).ll).getD ((v1.getD 2 d0).ii).toNat []).getD 5 d0).ii), .s (((((v1.getD 0 d0).ll).getD ((v1.getD 2 d0).ii).toNat []).getD 6 d0).ss), .sl (((((v1.getD 0 d0).ll).getD ((v1.getD 2 d0).ii).toNat []).getD 7 d0).ll), .sl (((((v1.getD 0 d0).ll).getD ((v1.getD 2 d0).ii).toNat []).getD 8 d0).ll), .sl (((((v1.getD 0 d0).ll).getD ((v1.getD 2 d0).ii).toNat []).getD 9 d0).ll), .i ((v1.getD 1 d0).ii)]).bindR fun r2 =>
 if (decide ((r2.getD 0 d0).ii < (0 : Int))) = true then
 .ret [.i (-1 : Int)]
 else
 .norm [.sl ((v1.getD 0 d0).ll), .i ((r2.getD 0 d0).ii), .i ((v1.getD 2 d0).ii)]
 else
 .fail) 1 fun v3 =>
 .norm [.sl ((v3.getD 0 d0).ll), .i ((v3.getD 1 d0).ii), .i (IntKind.i64.wrap ((v3.getD 2 d0).ii + (1 : Int)))]
 else
 .ex 0 [.i ((v1.getD 1 d0).ii)]
noncomputable def E_laws_szInDefS (a : List DC) : Out :=
 if (decide ((IntKind.i64.wrap ((a.getD 1 d0).ii - (((a.getD 0 d0).ll).length : Int))) < (0 : Int))) = true then
 .ret [.i (-1 : Int)]
 else
 Out.andThenB (Loop E_laws_szInDefSL1 [.sl ((a.getD 0 d0).ll), .i (IntKind.i64.wrap ((a.getD 1 d0).ii - (((a.getD 0 d0).ll).length : Int))), .i (0 : Int)]) 0 fun v4 =>
 .ret [.i ((v4.getD 0 d0).ii)]
theorem eq_laws_szInDefS a : r_laws_szInDefS a = E_laws_szInDefS a := (Run_eq cfg 105 _ a).trans (by kernel_rfl)
noncomputable def E_laws_szEnumDefSL1 : List DC → Out := fun v1 =>
 if (decide ((v1.getD 2 d0).ii < (((v1.getD 0 d0).ll).length : Int))) = true then
 Out.andThenB (if 173 = 173 ∧ 0 ≤ (v1.getD 2 d0).ii ∧ (v1.getD 2 d0).ii < (((v1.getD 0 d0).ll).length : Int) then
 (r_laws_szEnumDef [.s (((((v1.getD 0 d0).ll).getD ((v1.getD 2 d0).ii).toNat []).getD 0 d0).ss), .s (((((v1.getD 0 d0).ll).getD ((v1.getD 2 d0).ii).toNat []).getD 1 d0).ss), .sl (((((v1.getD 0 d0).ll).getD ((v1.getD 2 d0).ii).toNat []).getD 2 d0).ll), .i ((v1.getD 1 d0).ii)]).bindR fun r2 =>
 if (decide ((r2.getD 0 d0).ii < (0 : Int))) = true then
 .ret [.i (-1 : Int)]
 else
 .norm [.sl ((v1.getD 0 d0).ll), .i ((r2.getD 0 d0).ii), .i ((v1.getD 2 d0).ii)]
 else
 .fail) 1 fun v3 =>
 .norm [.sl ((v3.getD 0 d0).ll), .i ((v3.getD 1 d0).ii), .i (IntKind.i64.wrap ((v3.getD 2 d0).ii + (1 : Int)))]
 else
 .ex 0 [.i ((v1.getD 1 d0).ii)]
noncomputable def E_laws_szEnumDefS (a : List DC) : Out :=
 if (decide ((IntKind.i64.wrap ((a.getD 1 d0).ii - (((a.getD 0 d0).ll).length : Int))) < (0 : Int))) = true then
 .ret [.i (-1 : Int)]
 else
 Out.andThenB (Loop E_laws_szEnumDefSL1 [.sl ((a.getD 0 d0).ll), .i (IntKind.i64.wrap ((a.getD 1 d0).ii - (((a.getD 0 d0).ll).length : Int))), .i (0 : Int)]) 0 fun v4 =>
 .ret [.i ((v4.getD 0 d0).ii)]
theorem eq_laws_szEnumDefS a : r_laws_szEnumDefS a = E_laws_szEnumDefS a := (Run_eq cfg 106 _ a).trans (by kernel_rfl)
noncomputable def E_laws_szRootSL1 : List DC → Out := fun v1 =>
 if (decide ((v1.getD 2 d0).ii < (((v1.getD 0 d0).ll).length : Int))) = true then
 Out.andThenB (if 112 = 112 ∧ 0 ≤ (v1.getD 2 d0).ii ∧ (v1.getD 2 d0).ii < (((v1.getD 0 d0).ll).length : Int) then
 (r_laws_szRoot [.i (((((v1.getD 0 d0).ll).getD ((v1.getD 2 d0).ii).toNat []).getD 0 d0).ii), .s (((((v1.getD 0 d0).ll).getD ((v1.getD 2 d0).ii).toNat []).getD 1 d0).ss), .i ((v1.getD 1 d0).ii)]).bindR fun r2 =>
 if (decide ((r2.getD 0 d0).ii < (0 : Int))) = true then
 .ret [.i (-1 : Int)]
 else
 .norm [.sl ((v1.getD 0 d0).ll), .i ((r2.getD 0 d0).ii), .i ((v1.getD 2 d0).ii)]
 else
 .fail) 1 fun v3 =>
 .norm [.sl ((v3.getD 0 d0).ll), .i ((v3.getD 1 d0).ii), .i (IntKind.i64.wrap ((v3.getD 2 d0).ii + (1 : Int)))]
 else
 .ex 0 [.i ((v1.getD 1 d0).ii)]
noncomputable def E_laws_szRootS (a : List DC) : Out :=
 if (decide ((IntKind.i64.wrap ((a.getD 1 d0).ii - (((a.getD 0 d0).ll).length : Int))) < (0 : Int))) = true then
 .ret [.i (-1 : Int)]
 else
 Out.andThenB (Loop E_laws_szRootSL1 [.sl ((a.getD 0 d0).ll), .i (IntKind.i64.wrap ((a.getD 1 d0).ii - (((a.getD 0 d0).ll).length : Int))), .i (0 : Int)]) 0 fun v4 =>
 .ret [.i ((v4.getD 0 d0).ii)]
theorem eq_laws_szRootS a : r_laws_szRootS a = E_laws_szRootS a := (Run_eq cfg 37 _ a).trans (by kernel_rfl)
noncomputable def E_laws_szDirSL1 : List DC → Out := fun v1 =>
 if (decide ((v1.getD 2 d0).ii < (((v1.getD 0 d0).ll).length : Int))) = true then
 Out.andThenB (if 177 = 177 ∧ 0 ≤ (v1.getD 2 d0).ii ∧ (v1.getD 2 d0).ii < (((v1.getD 0 d0).ll).length : Int) then
 (r_laws_szDir [.s (((((v1.getD 0 d0).ll).getD ((v1.getD 2 d0).ii).toNat []).getD 0 d0).ss), .sl (((((v1.getD 0 d0).ll).getD ((v1.getD 2 d0).ii).toNat []).getD 1 d0).ll), .i ((v1.getD 1 d0).ii)]).bindR fun r2 =>
 if (decide ((r2.getD 0 d0).ii < (0 : Int))) = true then
 .ret [.i (-1 : Int)]
 else
 .norm [.sl ((v1.getD 0 d0).ll), .i ((r2.getD 0 d0).ii), .i ((v1.getD 2 d0).ii)]
 else
 .fail) 1 fun v3 =>
 .norm [.sl ((v3.getD 0 d0).ll), .i ((v3.getD 1 d0).ii), .i (IntKind.i64.wrap ((v3.getD 2 d0).ii + (1 : Int)))]
 else
 .ex 0 [.i ((v1.getD 1 d0).ii)]
noncomputable def E_laws_szDirS (a : List DC) : Out :=
 if (decide ((IntKind.i64.wrap ((a.getD 1 d0).ii - (((a.getD 0 d0).ll).length : Int))) < (0 : Int))) = true then
 .ret [.i (-1 : Int)]
 else
 Out.andThenB (Loop E_laws_szDirSL1 [.sl ((a.getD 0 d0).ll), .i (IntKind.i64.wrap ((a.getD 1 d0).ii - (((a.getD 0 d0).ll).length : Int))), .i (0 : Int)]) 0 fun v4 =>
 .ret [.i ((v4.getD 0 d0).ii)]
theorem eq_laws_szDirS a : r_laws_szDirS a = E_laws_szDirS a := (Run_eq cfg 107 _ a).trans (by kernel_rfl)
noncomputable def E_laws_toStringSL1 : List DC → Out := fun v1 =>
 if (decide ((v1.getD 2 d0).ii < (((v1.getD 0 d0).ll).length : Int))) = true then
 Out.andThenB (if 9 = 9 ∧ 0 ≤ (v1.getD 2 d0).ii ∧ (v1.getD 2 d0).ii < (((v1.getD 0 d0).ll).length : Int) then
 if 9 = 9 ∧ 0 ≤ (v1.getD 2 d0).ii ∧ (v1.getD 2 d0).ii < (((v1.getD 1 d0).ll).length : Int) then
 .norm [.sl ((v1.getD 0 d0).ll), .sl (((v1.getD 1 d0).ll).set (((v1.getD 2 d0).ii).toNat) (setRunD (((v1.getD 1 d0).ll).getD (((v1.getD 2 d0).ii).toNat) []) 0 [DC.s (((((v1.getD 0 d0).ll).getD ((v1.getD 2 d0).ii).toNat []).getD 0 d0).ss)])), .i ((v1.getD 2 d0).ii)]
 else
 .fail
 else
 .fail) 1 fun v2 =>
 .norm [.sl ((v2.getD 0 d0).ll), .sl ((v2.getD 1 d0).ll), .i (IntKind.i64.wrap ((v2.getD 2 d0).ii + (1 : Int)))]
 else
 .ex 0 [.sl ((v1.getD 1 d0).ll)]
noncomputable def E_laws_toStringS (a : List DC) : Out :=
 if 0 ≤ (((a.getD 0 d0).ll).length : Int) ∧ (((a.getD 0 d0).ll).length : Int) < (LIM : Int) ∧ (((a.getD 0 d0).ll).length : Int) = (((a.getD 0 d0).ll).length : Int) ∧ 16 ≤ 1024 ∧ 0 < 1 ∧ dp 9 = false then
 Out.andThenB (Loop E_laws_toStringSL1 [.sl ((a.getD 0 d0).ll), .sl (List.replicate (((a.getD 0 d0).ll).length : Int).toNat [DC.s []]), .i (0 : Int)]) 0 fun v3 =>
 .ret [.sl ((v3.getD 0 d0).ll)]
 else
 .fail
theorem eq_laws_toStringS a : r_laws_toStringS a = E_laws_toStringS a := (Run_eq cfg 109 _ a).trans (by kernel_rfl)
noncomputable def E_laws_toFieldDefSL1 : List DC → Out := fun v1 =>
 if (decide ((v1.getD 2 d0).ii < (((v1.getD 0 d0).ll).length : Int))) = true then
 Out.andThenB (if 164 = 164 ∧ 0 ≤ (v1.getD 2 d0).ii ∧ (v1.getD 2 d0).ii < (((v1.getD 0 d0).ll).length : Int) then
 (r_laws_toFieldDef [.s (((((v1.getD 0 d0).ll).getD ((v1.getD 2 d0).ii).toNat []).getD 0 d0).ss), .s (((((v1.getD 0 d0).ll).getD ((v1.getD 2 d0).ii).toNat []).getD 1 d0).ss), .sl (((((v1.getD 0 d0).ll).getD ((v1.getD 2 d0).ii).toNat []).getD 2 d0).ll), .s (((((v1.getD 0 d0).ll).getD ((v1.getD 2 d0).ii).toNat []).getD 3 d0).ss), .s (((((v1.getD 0 d0).ll).getD ((v1.getD 2 d0).ii).toNat []).getD 4 d0).ss), .sl (((((v1.getD 0 d0).ll).getD ((v1.getD 2 d0).ii).toNat []).getD 5 d0).ll)]).bindR fun r2 =>
 if 32 = 32 ∧ 0 ≤ (v1.getD 2 d0).ii ∧ (v1.getD 2 d0).ii < (((v1.getD 1 d0).ll).length : Int) then
 .norm [.sl ((v1.getD 0 d0).ll), .sl (((v1.getD 1 d0).ll).set (((v1.getD 2 d0).ii).toNat) (setRunD (((v1.getD 1 d0).ll).getD (((v1.getD 2 d0).ii).toNat) []) 0 [DC.s ((r2.getD 0 d0).ss), DC.s ((r2.getD 1 d0).ss), DC.sl ((r2.getD 2 d0).ll), DC.s ((r2.getD 3 d0).ss), DC.s ((r2.getD 4 d0).ss), DC.sl ((r2.getD 5 d0).ll)])), .i ((v1.getD 2 d0).ii)]
 else
 .fail
 else
 .fail) 1 fun v3 =>
 .norm [.sl ((v3.getD 0 d0).ll), .sl ((v3.getD 1 d0).ll), .i (IntKind.i64.wrap ((v3.getD 2 d0).ii + (1 : Int)))]
 else
 .ex 0 [.sl ((v1.getD 1 d0).ll)]
noncomputable def E_laws_toFieldDefS (a : List DC) : Out :=
 if 0 ≤ (((a.getD 0 d0).ll).length : Int) ∧ (((a.getD 0 d0).ll).length : Int) < (LIM : Int) ∧ (((a.getD 0 d0).ll).length : Int) = (((a.getD 0 d0).ll).length : Int) ∧ 112 ≤ 1024 ∧ 0 < 6 ∧ dp 32 = false then
 Out.andThenB (Loop E_laws_toFieldDefSL1 [.sl ((a.getD 0 d0).ll), .sl (List.replicate (((a.getD 0 d0).ll).length : Int).toNat [DC.s [], DC.s [], DC.sl [], DC.s [], DC.s [], DC.sl []]), .i (0 : Int)]) 0 fun v4 =>
 .ret [.sl ((v4.getD 0 d0).ll)]
 else
 .fail
theorem eq_laws_toFieldDefS a : r_laws_toFieldDefS a = E_laws_toFieldDefS a := (Run_eq cfg 110 _ a).trans (by kernel_rfl)
noncomputable def E_laws_toInDefSL1 : List DC → Out := fun v1 =>
 if (decide ((v1.getD 2 d0).ii < (((v1.getD 0 d0).ll).length : Int))) = true then
 Out.andThenB (if 170 = 170 ∧ 0 ≤ (v1.getD 2 d0).ii ∧ (v1.getD 2 d0).ii < (((v1.getD 0 d0).ll).length : Int) then
 (r_laws_toInDef [.s (((((v1.getD 0 d0).ll).getD ((v1.getD 2 d0).ii).toNat []).getD 0 d0).ss), .s (((((v1.getD 0 d0).ll).getD ((v1.getD 2 d0).ii).toNat []).getD 1 d0).ss), .s (((((v1.getD 0 d0).ll).getD ((v1.getD 2 d0).ii).toNat []).getD 2 d0).ss), .s (((((v1.getD 0 d0).ll).getD ((v1.getD 2 d0).ii).toNat []).getD 3 d0).ss), .b (((((v1.getD 0 d0).ll).getD ((v1.getD 2 d0).ii).toNat []).getD 4 d0).bb), .i (((((v1.getD 0 d0).ll).getD ((v1.getD 2 d0).ii).toNat []).getD 5 d0).ii), .s (((((v1.getD 0 d0).ll).getD ((v1.getD 2 d0).ii).toNat []).getD 6 d0).ss), .sl (((((v1.getD 0 d0).ll).getD ((v1.getD 2 d0).ii).toNat []).getD 7 d0).ll), .sl (((((v1.getD 0 d0).ll).getD ((v1.getD 2 d0).ii).toNat []).getD 8 d0).ll), .sl (((((v1.getD 0 d0).ll).getD ((v1.getD 2 d0).ii).toNat []).getD 9 d0).ll)]).bindR fun r2 =>
 if 123 = 123 ∧ 0 ≤ (v1.getD 2 d0).ii ∧ (v1.getD 2 d0).ii < (((v1.getD 1 d0).ll).length : Int) then
 .norm [.sl ((v1.getD 0 d0).ll), .sl (((v1.getD 1 d0).ll).set (((v1.getD 2 d0).ii).toNat) (setRunD (((v1.getD 1 d0).ll).getD (((v1.getD 2 d0).ii).toNat) []) 0 [DC.s ((r2.getD 0 d0).ss), DC.s ((r2.getD 1 d0).ss), DC.s ((r2.getD 2 d0).ss), DC.s ((r2.getD 3 d0).ss), DC.b ((r2.getD 4 d0).bb), DC.i ((r2.getD 5 d0).ii), DC.s ((r2.getD 6 d0).ss), DC.sl ((r2.getD 7 d0).ll), DC.sl ((r2.getD 8 d0).ll), DC.sl ((r2.getD 9 d0).ll)])), .i ((v1.getD 2 d0).ii)]
 else
 .fail
 else
 .fail) 1 fun v3 =>
 .norm [.sl ((v3.getD 0 d0).ll), .sl ((v3.getD 1 d0).ll), .i (IntKind.i64.wrap ((v3.getD 2 d0).ii + (1 : Int)))]
 else
 .ex 0 [.sl ((v1.getD 1 d0).ll)]
noncomputable def E_laws_toInDefS (a : List DC) : Out :=
 if 0 ≤ (((a.getD 0 d0).ll).length : Int) ∧ (((a.getD 0 d0).ll).length : Int) < (LIM : Int) ∧ (((a.getD 0 d0).ll).length : Int) = (((a.getD 0 d0).ll).length : Int) ∧ 168 ≤ 1024 ∧ 0 < 10 ∧ dp 123 = false then
 Out.andThenB (Loop E_laws_toInDefSL1 [.sl ((a.getD 0 d0).ll), .sl (List.replicate (((a.getD 0 d0).ll).length : Int).toNat [DC.s [], DC.s [], DC.s [], DC.s [], DC.b false, DC.i 0, DC.s [], DC.sl [], DC.sl [], DC.sl []]), .i (0 : Int)]) 0 fun v4 =>
 .ret [.sl ((v4.getD 0 d0).ll)]
 else
 .fail
theorem eq_laws_toInDefS a : r_laws_toInDefS a = E_laws_toInDefS a := (Run_eq cfg 111 _ a).trans (by kernel_rfl)
noncomputable def E_laws_toEnumDefSL1 : List DC → Out := fun v1 =>
 if (decide ((v1.getD 2 d0).ii < (((v1.getD 0 d0).ll).length : Int))) = true then
 Out.andThenB (if 173 = 173 ∧ 0 ≤ (v1.getD 2 d0).ii ∧ (v1.getD 2 d0).ii < (((v1.getD 0 d0).ll).length : Int) then
 (r_laws_toEnumDef [.s (((((v1.getD 0 d0).ll).getD ((v1.getD 2 d0).ii).toNat []).getD 0 d0).ss), .s (((((v1.getD 0 d0).ll).getD ((v1.getD 2 d0).ii).toNat []).getD 1 d0).ss), .sl (((((v1.getD 0 d0).ll).getD ((v1.getD 2 d0).ii).toNat []).getD 2 d0).ll)]).bindR fun r2 =>
 if 145 = 145 ∧ 0 ≤ (v1.getD 2 d0).ii ∧ (v1.getD 2 d0).ii < (((v1.getD 1 d0).ll).length : Int) then
 .norm [.sl ((v1.getD 0 d0).ll), .sl (((v1.getD 1 d0).ll).set (((v1.getD 2 d0).ii).toNat) (setRunD (((v1.getD 1 d0).ll).getD (((v1.getD 2 d0).ii).toNat) []) 0 [DC.s ((r2.getD 0 d0).ss), DC.s ((r2.getD 1 d0).ss), DC.sl ((r2.getD 2 d0).ll)])), .i ((v1.getD 2 d0).ii)]
 else
 .fail
 else
 .fail) 1 fun v3 =>
 .norm [.sl ((v3.getD 0 d0).ll), .sl ((v3.getD 1 d0).ll), .i (IntKind.i64.wrap ((v3.getD 2 d0).ii + (1 : Int)))]
 else
 .ex 0 [.sl ((v1.getD 1 d0).ll)]
noncomputable def E_laws_toEnumDefS (a : List DC) : Out :=
 if 0 ≤ (((a.getD 0 d0).ll).length : Int) ∧ (((a.getD 0 d0).ll).length : Int) < (LIM : Int) ∧ (((a.getD 0 d0).ll).length : Int) = (((a.getD 0 d0).ll).length : Int) ∧ 56 ≤ 1024 ∧ 0 < 3 ∧ dp 145 = false then
 Out.andThenB (Loop E_laws_toEnumDefSL1 [.sl ((a.getD 0 d0).ll), .sl (List.replicate (((a.getD 0 d0).ll).length : Int).toNat [DC.s [], DC.s [], DC.sl []]), .i (0 : Int)]) 0 fun v4 =>
 .ret [.sl ((v4.getD 0 d0).ll)]
 else
 .fail
theorem eq_laws_toEnumDefS a : r_laws_toEnumDefS a = E_laws_toEnumDefS a := (Run_eq cfg 112 _ a).trans (by kernel_rfl)
noncomputable def E_laws_toRootSL1 : List DC → Out := fun v1 =>
 if (decide ((v1.getD 2 d0).ii < (((v1.getD 0 d0).ll).length : Int))) = true then
 Out.andThenB (if 112 = 112 ∧ 0 ≤ (v1.getD 2 d0).ii ∧ (v1.getD 2 d0).ii < (((v1.getD 0 d0).ll).length : Int) then
 (r_laws_toRoot [.i (((((v1.getD 0 d0).ll).getD ((v1.getD 2 d0).ii).toNat []).getD 0 d0).ii), .s (((((v1.getD 0 d0).ll).getD ((v1.getD 2 d0).ii).toNat []).getD 1 d0).ss)]).bindR fun r2 =>
 if 109 = 109 ∧ 0 ≤ (v1.getD 2 d0).ii ∧ (v1.getD 2 d0).ii < (((v1.getD 1 d0).ll).length : Int) then
 .norm [.sl ((v1.getD 0 d0).ll), .sl (((v1.getD 1 d0).ll).set (((v1.getD 2 d0).ii).toNat) (setRunD (((v1.getD 1 d0).ll).getD (((v1.getD 2 d0).ii).toNat) []) 0 [DC.i ((r2.getD 0 d0).ii), DC.s ((r2.getD 1 d0).ss)])), .i ((v1.getD 2 d0).ii)]
 else
 .fail
 else
 .fail) 1 fun v3 =>
 .norm [.sl ((v3.getD 0 d0).ll), .sl ((v3.getD 1 d0).ll), .i (IntKind.i64.wrap ((v3.getD 2 d0).ii + (1 : Int)))]
 else
 .ex 0 [.sl ((v1.getD 1 d0).ll)]
noncomputable def E_laws_toRootS (a : List DC) : Out :=
 if 0 ≤ (((a.getD 0 d0).ll).length : Int) ∧ (((a.getD 0 d0).ll).length : Int) < (LIM : Int) ∧ (((a.getD 0 d0).ll).length : Int) = (((a.getD 0 d0).ll).length : Int) ∧ 24 ≤ 1024 ∧ 0 < 2 ∧ dp 109 = false then
 Out.andThenB (Loop E_laws_toRootSL1 [.sl ((a.getD 0 d0).ll), .sl (List.replicate (((a.getD 0 d0).ll).length : Int).toNat [DC.i 0, DC.s []]), .i (0 : Int)]) 0 fun v4 =>
 .ret [.sl ((v4.getD 0 d0).ll)]
 else
 .fail
theorem eq_laws_toRootS a : r_laws_toRootS a = E_laws_toRootS a := (Run_eq cfg 40 _ a).trans (by kernel_rfl)
noncomputable def E_laws_toDirSL1 : List DC → Out := fun v1 =>
 if (decide ((v1.getD 2 d0).ii < (((v1.getD 0 d0).ll).length : Int))) = true then
 Out.andThenB (if 177 = 177 ∧ 0 ≤ (v1.getD 2 d0).ii ∧ (v1.getD 2 d0).ii < (((v1.getD 0 d0).ll).length : Int) then
 (r_laws_toDir [.s (((((v1.getD 0 d0).ll).getD ((v1.getD 2 d0).ii).toNat []).getD 0 d0).ss), .sl (((((v1.getD 0 d0).ll).getD ((v1.getD 2 d0).ii).toNat []).getD 1 d0).ll)]).bindR fun r2 =>
 if 127 = 127 ∧ 0 ≤ (v1.getD 2 d0).ii ∧ (v1.getD 2 d0).ii < (((v1.getD 1 d0).ll).length : Int) then
 .norm [.sl ((v1.getD 0 d0).ll), .sl (((v1.getD 1 d0).ll).set (((v1.getD 2 d0).ii).toNat) (setRunD (((v1.getD 1 d0).ll).getD (((v1.getD 2 d0).ii).toNat) []) 0 [DC.s ((r2.getD 0 d0).ss), DC.sl ((r2.getD 1 d0).ll)])), .i ((v1.getD 2 d0).ii)]
 else
 .fail
 else
 .fail) 1 fun v3 =>
 .norm [.sl ((v3.getD 0 d0).ll), .sl ((v3.getD 1 d0).ll), .i (IntKind.i64.wrap ((v3.getD 2 d0).ii + (1 : Int)))]
 else
 .ex 0 [.sl ((v1.getD 1 d0).ll)]
noncomputable def E_laws_toDirS (a : List DC) : Out :=
 if 0 ≤ (((a.getD 0 d0).ll).length : Int) ∧ (((a.getD 0 d0).ll).length : Int) < (LIM : Int) ∧ (((a.getD 0 d0).ll).length : Int) = (((a.getD 0 d0).ll).length : Int) ∧ 40 ≤ 1024 ∧ 0 < 2 ∧ dp 127 = false then
 Out.andThenB (Loop E_laws_toDirSL1 [.sl ((a.getD 0 d0).ll), .sl (List.replicate (((a.getD 0 d0).ll).length : Int).toNat [DC.s [], DC.sl []]), .i (0 : Int)]) 0 fun v4 =>
 .ret [.sl ((v4.getD 0 d0).ll)]
 else
 .fail
theorem eq_laws_toDirS a : r_laws_toDirS a = E_laws_toDirS a := (Run_eq cfg 113 _ a).trans (by kernel_rfl)
noncomputable def E_spec_l13CopyFieldsL1 : List DC → Out := fun v1 =>
 if (decide ((v1.getD 2 d0).ii < (((v1.getD 0 d0).ll).length : Int))) = true then
 Out.andThenB (if 32 = 32 ∧ 0 ≤ (v1.getD 2 d0).ii ∧ (v1.getD 2 d0).ii < (((v1.getD 0 d0).ll).length : Int) then
 (r_spec_l13CopyIns [.sl (((((v1.getD 0 d0).ll).getD ((v1.getD 2 d0).ii).toNat []).getD 2 d0).ll)]).bindR fun r2 =>
 (r_spec_l10Dirs [.sl (((((v1.getD 0 d0).ll).getD ((v1.getD 2 d0).ii).toNat []).getD 5 d0).ll)]).bindR fun r3 =>
 if ((v1.getD 1 d0).ll).length + [[DC.s (((((v1.getD 0 d0).ll).getD ((v1.getD 2 d0).ii).toNat []).getD 0 d0).ss), DC.s (((((v1.getD 0 d0).ll).getD ((v1.getD 2 d0).ii).toNat []).getD 1 d0).ss), DC.sl ((r2.getD 0 d0).ll), DC.s (((((v1.getD 0 d0).ll).getD ((v1.getD 2 d0).ii).toNat []).getD 3 d0).ss), DC.s (((((v1.getD 0 d0).ll).getD ((v1.getD 2 d0).ii).toNat []).getD 4 d0).ss), DC.sl ((r3.getD 0 d0).ll)]].length < LIM ∧ 63 = 63 then
 .norm [.sl ((v1.getD 0 d0).ll), .sl (((v1.getD 1 d0).ll) ++ [[DC.s (((((v1.getD 0 d0).ll).getD ((v1.getD 2 d0).ii).toNat []).getD 0 d0).ss), DC.s (((((v1.getD 0 d0).ll).getD ((v1.getD 2 d0).ii).toNat []).getD 1 d0).ss), DC.sl ((r2.getD 0 d0).ll), DC.s (((((v1.getD 0 d0).ll).getD ((v1.getD 2 d0).ii).toNat []).getD 3 d0).ss), DC.s (((((v1.getD 0 d0).ll).getD ((v1.getD 2 d0).ii).toNat []).getD 4 d0).ss), DC.sl ((r3.getD 0 d0).ll)]]), .i ((v1.getD 2 d0).ii)]
 else
 .fail
 else
 .fail) 1 fun v4 =>
 .norm [.sl ((v4.getD 0 d0).ll), .sl ((v4.getD 1 d0).ll), .i (IntKind.i64.wrap ((v4.getD 2 d0).ii + (1 : Int)))]
 else
 .ex 0 [.sl ((v1.getD 1 d0).ll)]
noncomputable def E_spec_l13CopyFields (a : List DC) : Out :=
 Out.andThenB (Loop E_spec_l13CopyFieldsL1 [.sl ((a.getD 0 d0).ll), .sl [], .i (0 : Int)]) 0 fun v5 =>
 .ret [.sl ((v5.getD 0 d0).ll)]
theorem eq_spec_l13CopyFields a : r_spec_l13CopyFields a = E_spec_l13CopyFields a := (Run_eq cfg 39 _ a).trans (by kernel_rfl)
noncomputable def E_spec_l13CopyInsL1 : List DC → Out := fun v1 =>
 if (decide ((v1.getD 2 d0).ii < (((v1.getD 0 d0).ll).length : Int))) = true then
 Out.andThenB (if 123 = 123 ∧ 0 ≤ (v1.getD 2 d0).ii ∧ (v1.getD 2 d0).ii < (((v1.getD 0 d0).ll).length : Int) then
 (r_spec_l07Copy [.i (((((v1.getD 0 d0).ll).getD ((v1.getD 2 d0).ii).toNat []).getD 5 d0).ii), .s (((((v1.getD 0 d0).ll).getD ((v1.getD 2 d0).ii).toNat []).getD 6 d0).ss), .sl (((((v1.getD 0 d0).ll).getD ((v1.getD 2 d0).ii).toNat []).getD 7 d0).ll), .sl (((((v1.getD 0 d0).ll).getD ((v1.getD 2 d0).ii).toNat []).getD 8 d0).ll)]).bindR fun r2 =>
 (r_spec_l10Dirs [.sl (((((v1.getD 0 d0).ll).getD ((v1.getD 2 d0).ii).toNat []).getD 9 d0).ll)]).bindR fun r3 =>
 if ((v1.getD 1 d0).ll).length + [[DC.s (((((v1.getD 0 d0).ll).getD ((v1.getD 2 d0).ii).toNat []).getD 0 d0).ss), DC.s (((((v1.getD 0 d0).ll).getD ((v1.getD 2 d0).ii).toNat []).getD 1 d0).ss), DC.s (((((v1.getD 0 d0).ll).getD ((v1.getD 2 d0).ii).toNat []).getD 2 d0).ss), DC.s (((((v1.getD 0 d0).ll).getD ((v1.getD 2 d0).ii).toNat []).getD 3 d0).ss), DC.b (((((v1.getD 0 d0).ll).getD ((v1.getD 2 d0).ii).toNat []).getD 4 d0).bb), DC.i ((r2.getD 0 d0).ii), DC.s ((r2.getD 1 d0).ss), DC.sl ((r2.getD 2 d0).ll), DC.sl ((r2.getD 3 d0).ll), DC.sl ((r3.getD 0 d0).ll)]].length < LIM ∧ 27 = 27 then
 .norm [.sl ((v1.getD 0 d0).ll), .sl (((v1.getD 1 d0).ll) ++ [[DC.s (((((v1.getD 0 d0).ll).getD ((v1.getD 2 d0).ii).toNat []).getD 0 d0).ss), DC.s (((((v1.getD 0 d0).ll).getD ((v1.getD 2 d0).ii).toNat []).getD 1 d0).ss), DC.s (((((v1.getD 0 d0).ll).getD ((v1.getD 2 d0).ii).toNat []).getD 2 d0).ss), DC.s (((((v1.getD 0 d0).ll).getD ((v1.getD 2 d0).ii).toNat []).getD 3 d0).ss), DC.b (((((v1.getD 0 d0).ll).getD ((v1.getD 2 d0).ii).toNat []).getD 4 d0).bb), DC.i ((r2.getD 0 d0).ii), DC.s ((r2.getD 1 d0).ss), DC.sl ((r2.getD 2 d0).ll), DC.sl ((r2.getD 3 d0).ll), DC.sl ((r3.getD 0 d0).ll)]]), .i ((v1.getD 2 d0).ii)]
 else
 .fail
 else
 .fail) 1 fun v4 =>
 .norm [.sl ((v4.getD 0 d0).ll), .sl ((v4.getD 1 d0).ll), .i (IntKind.i64.wrap ((v4.getD 2 d0).ii + (1 : Int)))]
 else
 .ex 0 [.sl ((v1.getD 1 d0).ll)]
noncomputable def E_spec_l13CopyIns (a : List DC) : Out :=
 Out.andThenB (Loop E_spec_l13CopyInsL1 [.sl ((a.getD 0 d0).ll), .sl [], .i (0 : Int)]) 0 fun v5 =>
 .ret [.sl ((v5.getD 0 d0).ll)]
theorem eq_spec_l13CopyIns a : r_spec_l13CopyIns a = E_spec_l13CopyIns a := (Run_eq cfg 89 _ a).trans (by kernel_rfl)
noncomputable def E_spec_l13CopyValuesL1 : List DC → Out := fun v1 =>
 if (decide ((v1.getD 2 d0).ii < (((v1.getD 0 d0).ll).length : Int))) = true then
 Out.andThenB (if 145 = 145 ∧ 0 ≤ (v1.getD 2 d0).ii ∧ (v1.getD 2 d0).ii < (((v1.getD 0 d0).ll).length : Int) then
 (r_spec_l10Dirs [.sl (((((v1.getD 0 d0).ll).getD ((v1.getD 2 d0).ii).toNat []).getD 2 d0).ll)]).bindR fun r2 =>
 if ((v1.getD 1 d0).ll).length + [[DC.s (((((v1.getD 0 d0).ll).getD ((v1.getD 2 d0).ii).toNat []).getD 0 d0).ss), DC.s (((((v1.getD 0 d0).ll).getD ((v1.getD 2 d0).ii).toNat []).getD 1 d0).ss), DC.sl ((r2.getD 0 d0).ll)]].length < LIM ∧ 82 = 82 then
 .norm [.sl ((v1.getD 0 d0).ll), .sl (((v1.getD 1 d0).ll) ++ [[DC.s (((((v1.getD 0 d0).ll).getD ((v1.getD 2 d0).ii).toNat []).getD 0 d0).ss), DC.s (((((v1.getD 0 d0).ll).getD ((v1.getD 2 d0).ii).toNat []).getD 1 d0).ss), DC.sl ((r2.getD 0 d0).ll)]]), .i ((v1.getD 2 d0).ii)]
 else
 .fail
 else
 .fail) 1 fun v3 =>
 .norm [.sl ((v3.getD 0 d0).ll), .sl ((v3.getD 1 d0).ll), .i (IntKind.i64.wrap ((v3.getD 2 d0).ii + (1 : Int)))]
 else
 .ex 0 [.sl ((v1.getD 1 d0).ll)]
noncomputable def E_spec_l13CopyValues (a : List DC) : Out :=
 Out.andThenB (Loop E_spec_l13CopyValuesL1 [.sl ((a.getD 0 d0).ll), .sl [], .i (0 : Int)]) 0 fun v4 =>
 .ret [.sl ((v4.getD 0 d0).ll)]
theorem eq_spec_l13CopyValues a : r_spec_l13CopyValues a = E_spec_l13CopyValues a := (Run_eq cfg 108 _ a).trans (by kernel_rfl)
noncomputable def E_spec_l10DirsL1 : List DC → Out := fun v1 =>
 if (decide ((v1.getD 2 d0).ii < (((v1.getD 0 d0).ll).length : Int))) = true then
 Out.andThenB (if 127 = 127 ∧ 0 ≤ (v1.getD 2 d0).ii ∧ (v1.getD 2 d0).ii < (((v1.getD 0 d0).ll).length : Int) then
 if 127 = 127 ∧ 0 ≤ (v1.getD 2 d0).ii ∧ (v1.getD 2 d0).ii < (((v1.getD 0 d0).ll).length : Int) then
 (r_spec_l10Args [.sl (((((v1.getD 0 d0).ll).getD ((v1.getD 2 d0).ii).toNat []).getD 1 d0).ll)]).bindR fun r2 =>
 if ((v1.getD 1 d0).ll).length + [[DC.s (((((v1.getD 0 d0).ll).getD ((v1.getD 2 d0).ii).toNat []).getD 0 d0).ss), DC.sl ((r2.getD 0 d0).ll)]].length < LIM ∧ 30 = 30 then
 .norm [.sl ((v1.getD 0 d0).ll), .sl (((v1.getD 1 d0).ll) ++ [[DC.s (((((v1.getD 0 d0).ll).getD ((v1.getD 2 d0).ii).toNat []).getD 0 d0).ss), DC.sl ((r2.getD 0 d0).ll)]]), .i ((v1.getD 2 d0).ii)]
 else
 .fail
 else
 .fail
 else
 .fail) 1 fun v3 =>
 .norm [.sl ((v3.getD 0 d0).ll), .sl ((v3.getD 1 d0).ll), .i (IntKind.i64.wrap ((v3.getD 2 d0).ii + (1 : Int)))]
 else
 .ex 0 [.sl ((v1.getD 1 d0).ll)]
noncomputable def E_spec_l10Dirs (a : List DC) : Out :=
 Out.andThenB (Loop E_spec_l10DirsL1 [.sl ((a.getD 0 d0).ll), .sl [], .i (0 : Int)]) 0 fun v4 =>
 .ret [.sl ((v4.getD 0 d0).ll)]
theorem eq_spec_l10Dirs a : r_spec_l10Dirs a = E_spec_l10Dirs a := (Run_eq cfg 90 _ a).trans (by kernel_rfl)
noncomputable def E_slices_Clone_string (a : List DC) : Out := match primC 9 h_slices_Clone_string a with | some r => .ret r | none => .fail
theorem eq_slices_Clone_string a : r_slices_Clone_string a = E_slices_Clone_string a := (Run_eq cfg 114 h_slices_Clone_string a).trans (by kernel_rfl)
theorem at_slices_Clone_string (l : List (List DC)) (hl : l.length ≤ 4194304) : r_slices_Clone_string [.sl l] = .ret [.sl l] := by
  have h : l.length < LIM := by unfold LIM; omega
  have k : primC 9 h_slices_Clone_string [.sl l] = some [.sl l] := by
    show (if 9 = 9 ∧ l.length < LIM then some [DC.sl l] else none) = _
    rw [if_pos ⟨rfl, h⟩]
  rw [eq_slices_Clone_string, E_slices_Clone_string, k]
noncomputable def E_impl_cloneFieldsL1 : List DC → Out := fun v5 =>
 if (decide ((v5.getD 3 d0).ii < (v5.getD 2 d0).ii)) = true then
 Out.andThenB (if 32 = 32 ∧ 0 ≤ (v5.getD 3 d0).ii ∧ (v5.getD 3 d0).ii < (((v5.getD 1 d0).ll).length : Int) then
 (r_impl_cloneIns [.sl (((((v5.getD 1 d0).ll).getD ((v5.getD 3 d0).ii).toNat []).getD 2 d0).ll)]).bindR fun r6 =>
 (r_impl_cloneDirs [.sl (((((v5.getD 1 d0).ll).getD ((v5.getD 3 d0).ii).toNat []).getD 5 d0).ll)]).bindR fun r7 =>
 if ((v5.getD 0 d0).ll).length + [[DC.s (((((v5.getD 1 d0).ll).getD ((v5.getD 3 d0).ii).toNat []).getD 0 d0).ss), DC.s (((((v5.getD 1 d0).ll).getD ((v5.getD 3 d0).ii).toNat []).getD 1 d0).ss), DC.sl ((r6.getD 0 d0).ll), DC.s (((((v5.getD 1 d0).ll).getD ((v5.getD 3 d0).ii).toNat []).getD 3 d0).ss), DC.s (((((v5.getD 1 d0).ll).getD ((v5.getD 3 d0).ii).toNat []).getD 4 d0).ss), DC.sl ((r7.getD 0 d0).ll)]].length < LIM ∧ 63 = 63 then
 .norm [.sl (((v5.getD 0 d0).ll) ++ [[DC.s (((((v5.getD 1 d0).ll).getD ((v5.getD 3 d0).ii).toNat []).getD 0 d0).ss), DC.s (((((v5.getD 1 d0).ll).getD ((v5.getD 3 d0).ii).toNat []).getD 1 d0).ss), DC.sl ((r6.getD 0 d0).ll), DC.s (((((v5.getD 1 d0).ll).getD ((v5.getD 3 d0).ii).toNat []).getD 3 d0).ss), DC.s (((((v5.getD 1 d0).ll).getD ((v5.getD 3 d0).ii).toNat []).getD 4 d0).ss), DC.sl ((r7.getD 0 d0).ll)]]), .sl ((v5.getD 1 d0).ll), .i ((v5.getD 2 d0).ii), .i ((v5.getD 3 d0).ii)]
 else
 .fail
 else
 .fail) 1 fun v8 =>
 .norm [.sl ((v8.getD 0 d0).ll), .sl ((v8.getD 1 d0).ll), .i ((v8.getD 2 d0).ii), .i (IntKind.i64.wrap ((v8.getD 3 d0).ii + (1 : Int)))]
 else
 .ex 0 [.sl ((v5.getD 0 d0).ll)]
noncomputable def E_impl_cloneFields (a : List DC) : Out :=
 Out.andThenB (Loop E_impl_cloneFieldsL1 [.sl [], .sl ((a.getD 0 d0).ll), .i (((a.getD 0 d0).ll).length : Int), .i (0 : Int)]) 0 fun v9 =>
 .ret [.sl ((v9.getD 0 d0).ll)]
theorem eq_impl_cloneFields a : r_impl_cloneFields a = E_impl_cloneFields a := (Run_eq cfg 42 _ a).trans (by kernel_rfl)
noncomputable def E_impl_cloneInsL1 : List DC → Out := fun v5 =>
 if (decide ((v5.getD 3 d0).ii < (v5.getD 2 d0).ii)) = true then
 Out.andThenB (if 123 = 123 ∧ 0 ≤ (v5.getD 3 d0).ii ∧ (v5.getD 3 d0).ii < (((v5.getD 1 d0).ll).length : Int) then
 (r_impl_cloneValue [.i (((((v5.getD 1 d0).ll).getD ((v5.getD 3 d0).ii).toNat []).getD 5 d0).ii), .s (((((v5.getD 1 d0).ll).getD ((v5.getD 3 d0).ii).toNat []).getD 6 d0).ss), .sl (((((v5.getD 1 d0).ll).getD ((v5.getD 3 d0).ii).toNat []).getD 7 d0).ll), .sl (((((v5.getD 1 d0).ll).getD ((v5.getD 3 d0).ii).toNat []).getD 8 d0).ll)]).bindR fun r6 =>
 (r_impl_cloneDirs [.sl (((((v5.getD 1 d0).ll).getD ((v5.getD 3 d0).ii).toNat []).getD 9 d0).ll)]).bindR fun r7 =>
 if ((v5.getD 0 d0).ll).length + [[DC.s (((((v5.getD 1 d0).ll).getD ((v5.getD 3 d0).ii).toNat []).getD 0 d0).ss), DC.s (((((v5.getD 1 d0).ll).getD ((v5.getD 3 d0).ii).toNat []).getD 1 d0).ss), DC.s (((((v5.getD 1 d0).ll).getD ((v5.getD 3 d0).ii).toNat []).getD 2 d0).ss), DC.s (((((v5.getD 1 d0).ll).getD ((v5.getD 3 d0).ii).toNat []).getD 3 d0).ss), DC.b (((((v5.getD 1 d0).ll).getD ((v5.getD 3 d0).ii).toNat []).getD 4 d0).bb), DC.i ((r6.getD 0 d0).ii), DC.s ((r6.getD 1 d0).ss), DC.sl ((r6.getD 2 d0).ll), DC.sl ((r6.getD 3 d0).ll), DC.sl ((r7.getD 0 d0).ll)]].length < LIM ∧ 27 = 27 then
 .norm [.sl (((v5.getD 0 d0).ll) ++ [[DC.s (((((v5.getD 1 d0).ll).getD ((v5.getD 3 d0).ii).toNat []).getD 0 d0).ss), DC.s (((((v5.getD 1 d0).ll).getD ((v5.getD 3 d0).ii).toNat []).getD 1 d0).ss), DC.s (((((v5.getD 1 d0).ll).getD ((v5.getD 3 d0).ii).toNat []).getD 2 d0).ss), DC.s (((((v5.getD 1 d0).ll).getD ((v5.getD 3 d0).ii).toNat []).getD 3 d0).ss), DC.b (((((v5.getD 1 d0).ll).getD ((v5.getD 3 d0).ii).toNat []).getD 4 d0).bb), DC.i ((r6.getD 0 d0).ii), DC.s ((r6.getD 1 d0).ss), DC.sl ((r6.getD 2 d0).ll), DC.sl ((r6.getD 3 d0).ll), DC.sl ((r7.getD 0 d0).ll)]]), .sl ((v5.getD 1 d0).ll), .i ((v5.getD 2 d0).ii), .i ((v5.getD 3 d0).ii)]
 else
 .fail
 else
 .fail) 1 fun v8 =>
 .norm [.sl ((v8.getD 0 d0).ll), .sl ((v8.getD 1 d0).ll), .i ((v8.getD 2 d0).ii), .i (IntKind.i64.wrap ((v8.getD 3 d0).ii + (1 : Int)))]
 else
 .ex 0 [.sl ((v5.getD 0 d0).ll)]
noncomputable def E_impl_cloneIns (a : List DC) : Out :=
 Out.andThenB (Loop E_impl_cloneInsL1 [.sl [], .sl ((a.getD 0 d0).ll), .i (((a.getD 0 d0).ll).length : Int), .i (0 : Int)]) 0 fun v9 =>
 .ret [.sl ((v9.getD 0 d0).ll)]
theorem eq_impl_cloneIns a : r_impl_cloneIns a = E_impl_cloneIns a := (Run_eq cfg 94 _ a).trans (by kernel_rfl)
noncomputable def E_impl_cloneEnumsL1 : List DC → Out := fun v4 =>
 if (decide ((v4.getD 3 d0).ii < (v4.getD 2 d0).ii)) = true then
 Out.andThenB (if 145 = 145 ∧ 0 ≤ (v4.getD 3 d0).ii ∧ (v4.getD 3 d0).ii < (((v4.getD 1 d0).ll).length : Int) then
 (r_impl_cloneDirs [.sl (((((v4.getD 1 d0).ll).getD ((v4.getD 3 d0).ii).toNat []).getD 2 d0).ll)]).bindR fun r5 =>
 if ((v4.getD 0 d0).ll).length + [[DC.s (((((v4.getD 1 d0).ll).getD ((v4.getD 3 d0).ii).toNat []).getD 0 d0).ss), DC.s (((((v4.getD 1 d0).ll).getD ((v4.getD 3 d0).ii).toNat []).getD 1 d0).ss), DC.sl ((r5.getD 0 d0).ll)]].length < LIM ∧ 82 = 82 then
 .norm [.sl (((v4.getD 0 d0).ll) ++ [[DC.s (((((v4.getD 1 d0).ll).getD ((v4.getD 3 d0).ii).toNat []).getD 0 d0).ss), DC.s (((((v4.getD 1 d0).ll).getD ((v4.getD 3 d0).ii).toNat []).getD 1 d0).ss), DC.sl ((r5.getD 0 d0).ll)]]), .sl ((v4.getD 1 d0).ll), .i ((v4.getD 2 d0).ii), .i ((v4.getD 3 d0).ii)]
 else
 .fail
 else
 .fail) 1 fun v6 =>
 .norm [.sl ((v6.getD 0 d0).ll), .sl ((v6.getD 1 d0).ll), .i ((v6.getD 2 d0).ii), .i (IntKind.i64.wrap ((v6.getD 3 d0).ii + (1 : Int)))]
 else
 .ex 0 [.sl ((v4.getD 0 d0).ll)]
noncomputable def E_impl_cloneEnums (a : List DC) : Out :=
 Out.andThenB (Loop E_impl_cloneEnumsL1 [.sl [], .sl ((a.getD 0 d0).ll), .i (((a.getD 0 d0).ll).length : Int), .i (0 : Int)]) 0 fun v7 =>
 .ret [.sl ((v7.getD 0 d0).ll)]
theorem eq_impl_cloneEnums a : r_impl_cloneEnums a = E_impl_cloneEnums a := (Run_eq cfg 115 _ a).trans (by kernel_rfl)
noncomputable def E_slices_Clone_impl_Root (a : List DC) : Out := match primC 109 h_slices_Clone_impl_Root a with | some r => .ret r | none => .fail
theorem eq_slices_Clone_impl_Root a : r_slices_Clone_impl_Root a = E_slices_Clone_impl_Root a := (Run_eq cfg 116 h_slices_Clone_impl_Root a).trans (by kernel_rfl)
theorem at_slices_Clone_impl_Root (l : List (List DC)) (hl : l.length ≤ 4194304) : r_slices_Clone_impl_Root [.sl l] = .ret [.sl l] := by
  have h : l.length < LIM := by unfold LIM; omega
  have k : primC 109 h_slices_Clone_impl_Root [.sl l] = some [.sl l] := by
    show (if 109 = 109 ∧ l.length < LIM then some [DC.sl l] else none) = _
    rw [if_pos ⟨rfl, h⟩]
  rw [eq_slices_Clone_impl_Root, E_slices_Clone_impl_Root, k]
end Go.Proofs.QV
