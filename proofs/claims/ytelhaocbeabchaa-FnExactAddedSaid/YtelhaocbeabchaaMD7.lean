import Derived.Test.YtelhaocbeabchaaMD6
import Derived.Lib.SliceRun
import Derived.Test.YtelhaocbeabchaaMD5
import Derived.Test.YtelhaocbeabchaaProg
/- A function that is met by a contract and gives a copy of a slice (slices.Clone). -/
namespace Go.Proofs.QV
open Go
set_option linter.unusedVariables false
set_option linter.unusedSimpArgs false
def primC (e : Nat) : Hint → List DC → Option (List DC) := fun h v =>
  match h.tm, h.ob, v with
  | [.one (.sl e')], [], [.sl l] => if e' = e ∧ l.length < LIM then some [.sl l] else none
  | _, _, _ => none
def clCond : Code → Code
  | .seq _ (.seq (.seq _ x) _) => x
  | _ => .skip
def clRest : Code → Code
  | .seq _ (.seq _ y) => y
  | _ => .skip
def noFn : Nat → Option FI := fun _ => none
def noCl : Nat → Hint → List DC → Out := fun _ _ _ => .fail
def clRun (ty : Nat → Option TI) (fi : FI) (e : Nat) (ac ar : AC) (b : Bool) (l : List (List DC)) : Out :=
  let h : Hint := ⟨[.one (.sl e)], []⟩
  let st := startSt fi h [.sl l]
  exec ty noFn noCl 0 0 (retOut ty fi h) (.seq ac ar) (fun _ => none) { tm := putC (putC (putC st.tm (some 2) (.one .nil)) (some 3) (.one (.sl e l))) (some 4) (.one (.bool b)), H := st.H } (retOut ty fi h)
structure ClShape (P : Program) (fd : Func) (e : Nat) (ac ar : AC) : Prop where
  ex : ∃ (i0 i1 : Nat) (o0 om ob : Oper) (t t' : Nat), fd.body = some (.seq (.region i0 #[o0] false) (.seq (.seq (.region i1 #[om, ob] false) ac.code) ar.code)) ∧
    (o0.op = .assign (.const (.slice none 0 0)) ∧ o0.dst = some 2 ∧ o0.guard = none) ∧ (om.op = .move (.tmp 0) ∧ om.dst = some 3 ∧ om.guard = none) ∧
    (ob.op = .binOp .eql t (.tmp 3) (.const (.slice none 0 0)) t' ∧ ob.dst = some 4 ∧ ob.guard = none) ∧ P.underlying t = some (.slice e)
section
variable {P : Program} {ty : Nat → Option TI}
theorem eval_put_neq {a : Act} {d e : Nat} {u : Value} (h : d ≠ e) : (a.put (some d) u).eval (.tmp e) = a.eval (.tmp e) := by
  show (a.tmps.setIfInBounds d u).getD e undef = a.tmps.getD e undef
  rw [Array.getD_eq_getD_getElem?, Array.getD_eq_getD_getElem?, Array.getElem?_setIfInBounds_ne h]
theorem prim_clone {G : Glob} {f : Nat} {fi : FI} {fd : Func} {e : Nat} {ac ar : AC} (hty : TyOk P ty) (hmix : P.follows .mixedOrders = true) (h1 : P.funcs[f]? = some fd) (h2 : (fd.name == "runtime.NumGoroutine") = false) (h3 : fd.body.isNone = false)
    (hmk : fi.mark = none) (hp : fi.prim = some (primC e)) (hsh : ClShape P fd e ac ar) (hres : fd.results.toList = fi.res) (hnt : fd.ntmps = fi.ntmps) (hlen : 4 < fi.ntmps)
    (hrun : ∀ b l, (b = true → l = []) → l.length < LIM → clRun ty fi e ac ar b l = .ret [.sl l]) : FnOk P G ty f fi := by
  refine ⟨⟨fd, h1, h2, h3, fun h => by rw [hp] at h; simp at h⟩, fun p hpp h v r en => ?_, fun m hm => by rw [hmk] at hm; cases hm⟩
  rw [hp] at hpp
  simp only [Option.some.injEq] at hpp
  subst hpp
  unfold primC at en
  split at en
  · rename_i e' l htm hob
    split at en
    · rename_i hc
      obtain ⟨rfl, hlim⟩ := hc
      simp only [Option.some.injEq] at en
      subst en
      obtain ⟨tm, ob⟩ := h
      dsimp only at htm hob
      subst htm hob
      intro A g vals w hA hr hs hw hm
      have hs1 : vals.size = 1 := by simpa using hs
      obtain ⟨i0, i1, o0, om, ob, t, t', hbody, ⟨x1, x2, x3⟩, ⟨y1, y2, y3⟩, ⟨z1, z2, z3⟩, hu⟩ := hsh.ex
      have t0 := hr.tm 0 _ (vals[0]'(by omega)) (show (startSt fi ⟨[.one (.sl e')], []⟩ [.sl l]).tm[0]? = some (.one (.sl e' l)) from rfl) (by
        dsimp only
        rw [Array.getElem?_append_left (by omega), Array.getElem?_eq_getElem (by omega)])
      obtain ⟨F, t0, t1⟩ := t0
      have hv0 : ∀ v0, RdC ty w (.sl e') (.sl l) v0 F → ∃ ad n cap, v0 = .slice ad n cap ∧ (ad.isNone = true → l = []) := by
        intro v0 h0
        generalize hl0 : l = l0 at h0
        cases h0 with
        | nil _ a c => exact ⟨a, 0, c, rfl, fun _ => rfl⟩
        | sl _ _ b off n cap => exact ⟨_, n, cap, rfl, fun h => by simp at h⟩
      obtain ⟨ad, n, cap, hv0, hnil⟩ := hv0 _ t0
      refine calls_of_wp h1 hbody ?_
      rw [hnt]
      generalize ha0 : ({ tmps := vals ++ Array.replicate (fi.ntmps - vals.size) undef, defers := [] } : Act) = a0 at hr ⊢
      have e0 : a0.eval (.tmp 0) = .slice ad n cap := by
        subst ha0
        show Array.getD _ 0 undef = _
        rw [Array.getD_eq_getD_getElem?, Array.getElem?_append_left (by omega), Array.getElem?_eq_getElem (by omega), hv0]
        rfl
      have n1 : 4 < a0.tmps.size := by subst ha0; simp; omega
      refine wp_seq (wp_region ?_)
      show wpOps P #[o0] _ [0] a0 w
      refine wp_cons_none (o := o0) rfl x3 (wp_value (v := .slice none 0 0) (w' := w) (by simp [execOp, x1, Act.eval]) ?_)
      rw [x2]
      have r1 := hr.put (some 2) (c := .one .nil) (v := .slice none 0 0) rfl
      refine wp_seq (wp_seq (wp_region ?_))
      show wpOps P #[om, ob] _ [0, 1] _ w
      have e1 : (a0.put (some 2) (.slice none 0 0)).eval (.tmp 0) = .slice ad n cap := by rw [eval_put_neq (by decide)]; exact e0
      refine wp_cons_none (o := om) rfl y3 (wp_value (v := .slice ad n cap) (w' := w) (by simp only [execOp, y1, Sem.run_pure]; rw [e1]) ?_)
      rw [y2]
      have r2 := r1.put (some 3) (c := .one (.sl e' l)) (v := .slice ad n cap) ⟨F, by rw [← hv0]; exact t0, t1⟩
      refine wp_cons_none (o := ob) rfl z3 (wp_value (v := .bool ad.isNone) (w' := w) ?_ ?_)
      · have e2 : ((a0.put (some 2) (.slice none 0 0)).put (some 3) (.slice ad n cap)).eval (.tmp 3) = .slice ad n cap := by
          show Array.getD _ 3 undef = _
          rw [Array.getD_eq_getD_getElem?]
          simp only [Act.put]
          rw [Array.getElem?_setIfInBounds_self_of_lt (by simp; omega)]
          rfl
        simp only [execOp, z1]
        rw [e2]
        simp [eqGuard, Act.eval, Lib.run_eql_slice_nil w t e' ad n cap 0 0 hu]
      rw [z2]
      have r3 := r2.put (some 4) (c := .one (.bool ad.isNone)) (v := .bool ad.isNone) rfl
      have hcall : CallStep P ty noFn noCl A := call_step (G := G) (fun f fi h => by simp [noFn] at h) (fun f fi h v r hf e => by simp [noCl] at e) A hA
      have hex := hrun ad.isNone l hnil hlim
      unfold clRun at hex
      dsimp only at hex
      rw [exec] at hex
      have hm0 : A.m = 0 := by rw [hm]; rfl
      have fin : ∀ g' st' a' w', Rel ty A g' st' a' w' → retOut ty fi ⟨[.one (.sl e')], []⟩ st' = .ret [.sl l] → a'.defers = [] ∧ ∃ v, (results fd a'.tmps).run P w' = .ok v w' ∧ ∃ vs, v = resVal vs ∧ Res ty A (KO.vars []) fi.rk [.sl l] vs w' := by
        intro g' st' a' w' hr' hk
        obtain ⟨vs, q1, q2⟩ := ret_ok hty hr' (hn := ⟨[.one (.sl e')], []⟩) hm hk hres
        exact ⟨hr'.df, _, q1, vs, rfl, q2⟩
      refine wp_mono (exec_ok hty hcall hmix hm0 (fun st v => (retOut_ne fi ⟨[.one (.sl e')], []⟩ st).1 v) (fun st id v => (retOut_ne fi ⟨[.one (.sl e')], []⟩ st).2 id v) ac _ _ _ (.ret [.sl l]) g _ w r3 hex (by simp)) fun ex a' w' hq => ?_
      cases ex with
      | normal =>
        obtain ⟨g', st', hr', hk⟩ := hq
        refine wp_mono (exec_ok hty hcall hmix hm0 (fun st v => (retOut_ne fi ⟨[.one (.sl e')], []⟩ st).1 v) (fun st id v => (retOut_ne fi ⟨[.one (.sl e')], []⟩ st).2 id v) ar _ _ _ (.ret [.sl l]) g' _ w' hr' hk (by simp)) fun ex a2 w2 hq2 => ?_
        cases ex with
        | normal =>
          obtain ⟨g2, st2, hr2, hk2⟩ := hq2
          exact fin g2 st2 a2 w2 hr2 hk2
        | ret =>
          obtain ⟨g2, st2, hr2, hk2⟩ := hq2
          exact fin g2 st2 a2 w2 hr2 hk2
        | exit id =>
          obtain ⟨_, _, _, hk, _⟩ := hq2
          simp at hk
        | goto l => exact hq2.elim
        | panic c => exact hq2.elim
        | outgrown => exact hq2.elim
      | ret =>
        obtain ⟨g2, st2, hr2, hk2⟩ := hq
        exact fin g2 st2 a' w' hr2 hk2
      | exit id =>
        obtain ⟨_, _, _, hk, _⟩ := hq
        simp at hk
      | goto l => exact hq.elim
      | panic c => exact hq.elim
      | outgrown => exact hq.elim
    · simp at en
  · simp at en
end
set_option maxRecDepth 100000
abbrev ou : KC := .one .u
abbrev ob : KC := .one .b
abbrev os : KC := .one .s
abbrev oi : KC := .one (.i .i64)
abbrev ol (e : Nat) : KC := .one (.sl e)
def uu (n : Nat) (l : List KC) : List KC := List.replicate n (.one .u) ++ l
def vv (n : Nat) (l : List KO) : List KO := List.replicate n .u ++ l
noncomputable def tyL : List (Nat × TI) := [(3, ⟨.int .i64, [.i .i64], 8, [], false⟩),
  (4, ⟨.bool, [.b], 1, [], false⟩),
  (5, ⟨.int .u8, [.i .u8], 1, [], false⟩),
  (9, ⟨.str, [.s], 16, [], false⟩),
  (22, ⟨.slice 76, [.sl 76], 24, [], false⟩),
  (24, ⟨.slice 9, [.sl 9], 24, [], false⟩),
  (26, ⟨.slice 83, [.sl 83], 24, [], false⟩),
  (51, ⟨.slice 134, [.sl 134], 24, [], false⟩),
  (52, ⟨.slice 137, [.sl 137], 24, [], false⟩),
  (53, ⟨.slice 139, [.sl 139], 24, [], false⟩),
  (54, ⟨.slice 143, [.sl 143], 24, [], false⟩),
  (56, ⟨.struct, [.i .i64, .b, .s, .s, .sl 9, .sl 134, .sl 76, .sl 137, .sl 139, .b, .sl 143], 200, [(0, 1, false), (1, 1, false), (2, 1, false), (3, 1, false), (4, 1, false), (5, 1, false), (6, 1, false), (7, 1, false), (8, 1, false), (9, 1, false), (10, 1, false)], false⟩),
  (58, ⟨.slice 127, [.sl 127], 24, [], false⟩),
  (59, ⟨.slice 129, [.sl 129], 24, [], false⟩),
  (60, ⟨.slice 131, [.sl 131], 24, [], false⟩),
  (61, ⟨.slice 122, [.sl 122], 24, [], false⟩),
  (63, ⟨.struct, [.i .i64, .b, .s, .s, .sl 9, .sl 127, .sl 83, .sl 129, .sl 131, .b, .sl 122], 200, [(0, 1, false), (1, 1, false), (2, 1, false), (3, 1, false), (4, 1, false), (5, 1, false), (6, 1, false), (7, 1, false), (8, 1, false), (9, 1, false), (10, 1, false)], false⟩),
  (71, ⟨.struct, [.s, .s], 32, [(0, 1, false), (1, 1, false)], false⟩),
  (72, ⟨.slice 74, [.sl 74], 24, [], false⟩),
  (74, ⟨.struct, [.i .i64, .s, .sl 74, .sl 9], 72, [(0, 1, false), (1, 1, false), (2, 1, false), (3, 1, false)], false⟩),
  (76, ⟨.struct, [.s, .s, .s, .s, .b, .i .i64, .s, .sl 74, .sl 9, .sl 143], 168, [(0, 1, false), (1, 1, false), (2, 2, true), (4, 1, false), (5, 4, true), (9, 1, false)], false⟩),
  (78, ⟨.struct, [.s, .s], 32, [(0, 1, false), (1, 1, false)], false⟩),
  (79, ⟨.slice 81, [.sl 81], 24, [], false⟩),
  (81, ⟨.struct, [.i .i64, .s, .sl 81, .sl 9], 72, [(0, 1, false), (1, 1, false), (2, 1, false), (3, 1, false)], false⟩),
  (83, ⟨.struct, [.s, .s, .s, .s, .b, .i .i64, .s, .sl 81, .sl 9, .sl 122], 168, [(0, 1, false), (1, 1, false), (2, 2, true), (4, 1, false), (5, 4, true), (9, 1, false)], false⟩),
  (119, ⟨.slice 5, [.sl 5], 24, [], false⟩),
  (120, ⟨.slice 161, [.sl 161], 24, [], false⟩),
  (122, ⟨.struct, [.s, .sl 161], 40, [(0, 1, false), (1, 1, false)], false⟩),
  (127, ⟨.struct, [.s, .s, .sl 83, .s, .s, .sl 122], 112, [(0, 1, false), (1, 1, false), (2, 1, false), (3, 2, true), (5, 1, false)], false⟩),
  (129, ⟨.struct, [.s, .s, .sl 122], 56, [(0, 1, false), (1, 1, false), (2, 1, false)], false⟩),
  (131, ⟨.struct, [.i .i64, .s], 24, [(0, 1, false), (1, 1, false)], false⟩),
  (134, ⟨.struct, [.s, .s, .sl 76, .s, .s, .sl 143], 112, [(0, 1, false), (1, 1, false), (2, 1, false), (3, 2, true), (5, 1, false)], false⟩),
  (137, ⟨.struct, [.s, .s, .sl 143], 56, [(0, 1, false), (1, 1, false), (2, 1, false)], false⟩),
  (139, ⟨.struct, [.i .i64, .s], 24, [(0, 1, false), (1, 1, false)], false⟩),
  (141, ⟨.slice 169, [.sl 169], 24, [], false⟩),
  (143, ⟨.struct, [.s, .sl 169], 40, [(0, 1, false), (1, 1, false)], false⟩),
  (161, ⟨.struct, [.s, .i .i64, .s, .sl 81, .sl 9], 88, [(0, 1, false), (1, 4, true)], false⟩),
  (169, ⟨.struct, [.s, .i .i64, .s, .sl 74, .sl 9], 88, [(0, 1, false), (1, 4, true)], false⟩)]
theorem tys : tyB Try.prog tyL = true := by kernel_rfl
noncomputable def fi40 : FI := mkFI Try.f40 1 [.ct (.i .i64)] [(false, [.ct .s])] (fun _ => (.s .n (.s .n (.s .n (.s (.b (.b (.s .n (.b (.s (.r [0, 0, 0, 0, 0, 0, 0, 0, 0] none) .n) ⟨oi :: ou :: ou :: os :: uu 16 [], .u :: []⟩)) ⟨oi :: ou :: ou :: os :: uu 16 [], .u :: []⟩) ⟨uu 3 (os :: uu 16 []), .u :: []⟩) .n)))))
noncomputable def E_laws_markTextL1 : List DC → Out := fun v1 =>
    if (decide ((v1.getD 0 d0).ii > (0 : Int))) = true then
      Out.andThenB (if (10 : Int) = 0 then
          .fail
        else
          if (rowBytes [[DC.i (IntKind.u8.wrap (IntKind.i64.wrap ((48 : Int) + (((v1.getD 0 d0).ii).tmod (10 : Int)))))]]).length + ((v1.getD 1 d0).ss).length < LIM then
            if (10 : Int) = 0 then
              .fail
            else
              .norm [.i (IntKind.i64.wrap (((v1.getD 0 d0).ii).tdiv (10 : Int))), .s ((rowBytes [[DC.i (IntKind.u8.wrap (IntKind.i64.wrap ((48 : Int) + (((v1.getD 0 d0).ii).tmod (10 : Int)))))]]) ++ ((v1.getD 1 d0).ss))]
          else
            .fail) 1 fun v2 =>
      .norm [.i ((v2.getD 0 d0).ii), .s ((v2.getD 1 d0).ss)]
    else
      .ex 0 [.s ((v1.getD 1 d0).ss)]
noncomputable def E_laws_markText (a : List DC) : Out :=
    if (decide ((a.getD 0 d0).ii ≤ (0 : Int))) = true then
      .ret [.s ([109, 48] : List UInt8)]
    else
      Out.andThenB (Loop E_laws_markTextL1 [.i ((a.getD 0 d0).ii), .s ([] : List UInt8)]) 0 fun v3 =>
      if ([109] : List UInt8).length + ((v3.getD 0 d0).ss).length < LIM then
        .ret [.s (([109] : List UInt8) ++ ((v3.getD 0 d0).ss))]
      else
        .fail
noncomputable def cfg0 : Cfg := ⟨fun t => look t tyL, fun f => look f [(40, fi40)]⟩
theorem fns0 : ∀ x ∈ [(40, fi40)], FnOk Try.prog Glob.none cfg0.ty x.1 x.2 := all_cons (mkFI_ok Try.func40 (by kernel_rfl)) all_nil
theorem eq0 (a : List DC) : Run cfg0 40 ⟨[.one (.i .i64)], []⟩ a = E_laws_markText a := (Run_eq cfg0 40 _ a).trans (by kernel_rfl)
theorem mt_step (k : Int) (o : List UInt8) (h0 : 0 < k) (h1 : k < 4611686018427387904) (ho : o.length ≤ 100) : ∃ c, E_laws_markTextL1 [.i k, .s o] = .norm [.i (k / 10), .s (c :: o)] := by
  have hw : IntKind.i64.wrap (k.tdiv 10) = k / 10 := by
    rw [Int.tdiv_eq_ediv_of_nonneg (by omega)]
    exact wrap64 (by omega) (by omega)
  have hl : 1 + o.length < LIM := by unfold LIM; omega
  refine ⟨UInt8.ofNat (IntKind.u8.wrap (IntKind.i64.wrap (48 + k.tmod 10))).toNat, ?_⟩
  simp only [E_laws_markTextL1, List.getD_cons_zero, List.getD_cons_succ, DC.ii_i, DC.ss_s, hw]
  simp [h0, hl, rowBytes, Out.andThenB]
  try rfl
theorem mt_loop : ∀ (m : Nat) (k : Int) (o : List UInt8), 0 ≤ k → k < 4611686018427387904 → k < 10 ^ m → o.length + m ≤ 100 → ∃ s : List UInt8, s.length ≤ 100 ∧ Loop E_laws_markTextL1 [.i k, .s o] = .ex 0 [.s s]
  | 0, k, o, h0, _, h1, ho => by
    have : k = 0 := by simp at h1; omega
    subst this
    exact ⟨o, by omega, Loop_ex (by simp [E_laws_markTextL1])⟩
  | m + 1, k, o, h0, hb, h1, ho => by
    by_cases hk : 0 < k
    · obtain ⟨c, hc⟩ := mt_step k o hk hb (by omega)
      rw [Loop_norm hc]
      refine mt_loop m (k / 10) (c :: o) (by omega) (by omega) ?_ (by simp; omega)
      rw [Int.pow_succ] at h1
      omega
    · have : k = 0 := by omega
      subst this
      exact ⟨o, by omega, Loop_ex (by simp [E_laws_markTextL1])⟩
theorem mt_ok (k : Int) (h0 : 0 ≤ k) (h1 : k < 4611686018427387904) : ∃ s, E_laws_markText [.i k] = .ret [.s s] := by
  by_cases hk : k ≤ 0
  · exact ⟨[109, 48], by simp [E_laws_markText, hk]⟩
  · obtain ⟨s, hs, h⟩ := mt_loop 19 k [] h0 h1 (by have : (10 : Int) ^ 19 = 10000000000000000000 := by decide
                                                   omega) (by simp)
    have hl : 1 + s.length < LIM := by unfold LIM; omega
    refine ⟨109 :: s, ?_⟩
    simp only [E_laws_markText, List.getD_cons_zero, List.getD_cons_succ, DC.ii_i, DC.ss_s, h, Out.andThenB]
    simp [hk, hl, Nat.add_comm]
    try (unfold LIM; omega)
noncomputable def mtx (k : Int) : List UInt8 := match E_laws_markText [.i k] with | .ret [.s s] => s | _ => []
theorem mtx_eq {k : Int} (h0 : 0 ≤ k) (h1 : k < 4611686018427387904) : E_laws_markText [.i k] = .ret [.s (mtx k)] := by
  obtain ⟨s, h⟩ := mt_ok k h0 h1
  unfold mtx
  rw [h]
noncomputable def mT : Int → Option (List UInt8) := fun k => some (mtx k)
def ms13 : List MA := [.txt 0, .inc, .txt 1, .inc, .txt 2, .inc, .txt 3, .inc, .bool 4, .inc, .int 5, .inc, .txt 6, .inc, .sub 7 41, .upd, .sub 8 14, .upd, .sub 9 42, .upd]
def ms14 : List MA := [.txt 0, .inc]
def ms41 : List MA := [.int 0, .inc, .txt 1, .inc, .sub 2 41, .upd, .sub 3 14, .upd]
def ms42 : List MA := [.txt 0, .inc, .sub 1 84, .upd]
def ms55 : List MA := [.txt 0, .inc, .txt 1, .inc, .sub 2 13, .upd, .txt 3, .inc, .txt 4, .inc, .sub 5 42, .upd]
def ms56 : List MA := [.txt 0, .inc, .txt 1, .inc, .sub 2 42, .upd]
def ms57 : List MA := [.int 0, .inc, .txt 1, .inc]
def ms84 : List MA := [.txt 0, .inc, .int 1, .inc, .txt 2, .inc, .sub 3 41, .upd, .sub 4 14, .upd]
noncomputable def ti9 : TI := ⟨.str, [.s], 16, [], false⟩
noncomputable def ti81 : TI := ⟨.struct, [.i .i64, .s, .sl 81, .sl 9], 72, [(0, 1, false), (1, 1, false), (2, 1, false), (3, 1, false)], false⟩
noncomputable def ti83 : TI := ⟨.struct, [.s, .s, .s, .s, .b, .i .i64, .s, .sl 81, .sl 9, .sl 122], 168, [(0, 1, false), (1, 1, false), (2, 2, true), (4, 1, false), (5, 4, true), (9, 1, false)], false⟩
noncomputable def ti122 : TI := ⟨.struct, [.s, .sl 161], 40, [(0, 1, false), (1, 1, false)], false⟩
noncomputable def ti127 : TI := ⟨.struct, [.s, .s, .sl 83, .s, .s, .sl 122], 112, [(0, 1, false), (1, 1, false), (2, 1, false), (3, 2, true), (5, 1, false)], false⟩
noncomputable def ti129 : TI := ⟨.struct, [.s, .s, .sl 122], 56, [(0, 1, false), (1, 1, false), (2, 1, false)], false⟩
noncomputable def ti131 : TI := ⟨.struct, [.i .i64, .s], 24, [(0, 1, false), (1, 1, false)], false⟩
noncomputable def ti161 : TI := ⟨.struct, [.s, .i .i64, .s, .sl 81, .sl 9], 88, [(0, 1, false), (1, 4, true)], false⟩
def mTab : Nat → Option (List MA) := fun f => look f [(13, ms13), (14, ms14), (41, ms41), (42, ms42), (55, ms55), (56, ms56), (57, ms57), (84, ms84)]
def mMt : Nat → Option Nat := fun f => look f [(13, 83), (14, 9), (41, 81), (42, 122), (55, 127), (56, 129), (57, 131), (84, 161)]
theorem mtabok : TabOk Try.prog (fun t => look t tyL) mT 40 mMt mTab where
  tyo := (tyB_ok tys).1
  fd := by
    rintro f (rfl | ⟨e, he⟩)
    · exact ⟨_, Try.func40, by kernel_rfl, rfl⟩
    have := look_mem he
    simp only [List.mem_cons, Prod.mk.injEq, List.not_mem_nil, or_false] at this
    rcases this with ⟨rfl, rfl⟩ | ⟨rfl, rfl⟩ | ⟨rfl, rfl⟩ | ⟨rfl, rfl⟩ | ⟨rfl, rfl⟩ | ⟨rfl, rfl⟩ | ⟨rfl, rfl⟩ | ⟨rfl, rfl⟩
    · exact ⟨_, Try.func13, by kernel_rfl, rfl⟩
    · exact ⟨_, Try.func14, by kernel_rfl, rfl⟩
    · exact ⟨_, Try.func41, by kernel_rfl, rfl⟩
    · exact ⟨_, Try.func42, by kernel_rfl, rfl⟩
    · exact ⟨_, Try.func55, by kernel_rfl, rfl⟩
    · exact ⟨_, Try.func56, by kernel_rfl, rfl⟩
    · exact ⟨_, Try.func57, by kernel_rfl, rfl⟩
    · exact ⟨_, Try.func84, by kernel_rfl, rfl⟩
  tfc := by
    intro k s w h0 h1 hs
    obtain rfl : mtx k = s := Option.some.inj hs
    exact int_calls (cfg := cfg0) (G := Glob.none) (tyB_ok tys).1 (by kernel_rfl) (fn_ok fns0) (f := 40) (fi := fi40) (by kernel_rfl) ⟨trivial, fun _ h => h.elim⟩ rfl rfl (Run.evt ((eq0 _).trans (mtx_eq h0 h1)))
  tfs := fun k _ _ => ⟨_, rfl⟩
  sh := by
    intro f e he
    have := look_mem he
    simp only [List.mem_cons, Prod.mk.injEq, List.not_mem_nil, or_false] at this
    rcases this with ⟨rfl, rfl⟩ | ⟨rfl, rfl⟩ | ⟨rfl, rfl⟩ | ⟨rfl, rfl⟩ | ⟨rfl, rfl⟩ | ⟨rfl, rfl⟩ | ⟨rfl, rfl⟩ | ⟨rfl, rfl⟩
    · exact ⟨ti83, Try.f13, ms13, by kernel_rfl, Try.func13, by kernel_rfl, by kernel_rfl⟩
    · exact ⟨ti9, Try.f14, ms14, by kernel_rfl, Try.func14, by kernel_rfl, by kernel_rfl⟩
    · exact ⟨ti81, Try.f41, ms41, by kernel_rfl, Try.func41, by kernel_rfl, by kernel_rfl⟩
    · exact ⟨ti122, Try.f42, ms42, by kernel_rfl, Try.func42, by kernel_rfl, by kernel_rfl⟩
    · exact ⟨ti127, Try.f55, ms55, by kernel_rfl, Try.func55, by kernel_rfl, by kernel_rfl⟩
    · exact ⟨ti129, Try.f56, ms56, by kernel_rfl, Try.func56, by kernel_rfl, by kernel_rfl⟩
    · exact ⟨ti131, Try.f57, ms57, by kernel_rfl, Try.func57, by kernel_rfl, by kernel_rfl⟩
    · exact ⟨ti161, Try.f84, ms84, by kernel_rfl, Try.func84, by kernel_rfl, by kernel_rfl⟩
noncomputable def h_slices_Clone_string : Hint := ⟨ol 9 :: [], []⟩
noncomputable def h_slices_Clone_impl_Root : Hint := ⟨ol 131 :: [], []⟩
noncomputable def fi6 : FI := mkFI Try.f6 85 [.ag [.i .i64, .b, .s, .s, .sl 9, .sl 134, .sl 76, .sl 137, .sl 139, .b, .sl 143], .ag [.i .i64, .b, .s, .s, .sl 9, .sl 134, .sl 76, .sl 137, .sl 139, .b, .sl 143]] [(false, [.ct .b])] (fun _ => (.s (.r [0, 1, 0] none) (.s .n (.s .n (.s .n (.s .n (.s .n (.s (.r [0, 2, 0, 8, 14, 20, 0] none) (.s (.r [0, 21, 27, 0] none) (.s (.r [0, 28, 34, 0] none) (.s (.r [0, 0, 35, 41, 0] none) (.s .n (.s (.s (.r [0, 0, 42, 0, 0] none) .n) (.s (.s (.r [0, 0, 48, 0, 0] none) .n) (.s .n (.s .n (.s .n (.s (.s (.r [] (some ⟨ou :: ou :: .one (.ptr 0 0) :: .one (.ptr 1 0) :: ou :: ou :: .one (.ptr 20 0) :: ou :: ou :: .one (.ptr 41 0) :: uu 53 (ob :: uu 28 []), .var 56 [.i .i64, .b, .s, .s, .sl 9, .sl 134, .sl 76, .sl 137, .sl 139, .b, .sl 143] :: .var 56 [.i .i64, .b, .s, .s, .sl 9, .sl 134, .sl 76, .sl 137, .sl 139, .b, .sl 143] :: vv 18 (.var 63 [.i .i64, .b, .s, .s, .own 9 54, .own 1127 55, .own 1083 56, .own 1129 57, .own 131 58, .b, .own 1122 59] :: vv 20 (.var 63 [.i .i64, .b, .s, .s, .own 9 60, .own 1127 61, .own 1083 62, .own 1129 63, .own 131 64, .b, .own 1122 65] :: vv 43 []))⟩)) .n) (.s .n (.s .n (.s .n (.s .n (.s .n (.s .n (.s (.r [0, 66, 0, 72, 78, 84, 0] none) .n)))))))))))))))))))))))))
noncomputable def fi28 : FI := mkFI Try.f28 1 [.ag [.i .i64, .b, .s, .s, .sl 9, .sl 134, .sl 76, .sl 137, .sl 139, .b, .sl 143], .ct (.i .i64)] [(false, [.ct (.i .i64)])] (fun _ => (.s (.r [0, 0] none) .n))
noncomputable def fi30 : FI := mkFI Try.f30 9 [.ag [.i .i64, .b, .s, .s, .sl 9, .sl 134, .sl 76, .sl 137, .sl 139, .b, .sl 143]] [(true, [.ct (.i .i64), .ct .b, .ct .s, .ct .s, .new 9, .new 1127, .new 1083, .new 1129, .new 131, .ct .b, .new 1122])] (fun _ => (.s (.r [0, 1] none) (.s (.r [2] none) (.s .n (.s .n (.s .n (.s .n (.s (.r [0, 0, 3, 0, 0] none) (.s (.r [0, 0, 4, 0, 0] none) (.s (.r [0, 0, 5, 0, 0] none) (.s (.r [0, 0, 6, 0, 0] none) (.s (.r [0, 0, 7, 0, 0] none) (.s .n (.s (.r [0, 0, 8, 0, 0] none) .n))))))))))))))
noncomputable def fi29 : FI := mkFI Try.f29 23 [.ag [.i .i64, .b, .s, .s, .sl 9, .sl 127, .sl 83, .sl 129, .sl 131, .b, .sl 122], .ag [.i .i64, .b, .s, .s, .sl 9, .sl 127, .sl 83, .sl 129, .sl 131, .b, .sl 122]] [(true, [.ct (.i .i64), .ct .b, .ct .s, .ct .s, .new 9, .new 1127, .new 1083, .new 1129, .new 131, .ct .b, .new 1122])] (fun _ => (.s (.r [0, 1, 2] none) (.s (.r [0, 3, 9, 0] none) (.s (.r [0, 10, 16, 0] none) (.s (.r [0, 0, 0, 0, 17, 0, 0] none) (.s (.r [0, 0, 0, 0, 18, 0, 0] none) (.s (.r [0, 0, 0, 0, 19, 0, 0] none) (.s (.r [0, 0, 0, 0, 20, 0, 0] none) (.s (.r [0, 0, 0, 0, 21, 0, 0] none) (.s (.r [0, 0, 0, 0, 22, 0, 0] none) .n))))))))))
noncomputable def fi31 : FI := mkFI Try.f31 23 [.ag [.i .i64, .b, .s, .s, .sl 9, .sl 127, .sl 83, .sl 129, .sl 131, .b, .sl 122], .ag [.i .i64, .b, .s, .s, .sl 9, .sl 127, .sl 83, .sl 129, .sl 131, .b, .sl 122]] [(true, [.ct (.i .i64), .ct .b, .ct .s, .ct .s, .new 9, .new 1127, .new 1083, .new 1129, .new 131, .ct .b, .new 1122])] (fun _ => (.s (.r [0, 1, 2] none) (.s (.r [0, 3, 9, 0] none) (.s (.r [0, 10, 16, 0] none) (.s (.r [0, 0, 0, 0, 17, 0, 0] none) (.s (.r [0, 0, 0, 0, 18, 0, 0] none) (.s (.r [0, 0, 0, 0, 19, 0, 0] none) (.s (.r [0, 0, 0, 0, 20, 0, 0] none) (.s (.r [0, 0, 0, 0, 21, 0, 0] none) (.s (.r [0, 0, 0, 0, 22, 0, 0] none) .n))))))))))
noncomputable def fi32 : FI := mkFI Try.f32 2 [.ag [.i .i64, .b, .s, .s, .sl 9, .sl 127, .sl 83, .sl 129, .sl 131, .b, .sl 122], .ag [.i .i64, .b, .s, .s, .sl 9, .sl 127, .sl 83, .sl 129, .sl 131, .b, .sl 122]] [(false, [.ct .b])] (fun _ => (.s (.r [0, 1, 0] none) .n))
noncomputable def fi34 : FI := mkFI Try.f34 1 [.ag [.i .i64, .b, .s, .s, .sl 9, .sl 127, .sl 83, .sl 129, .sl 131, .b, .sl 122], .ct (.i .i64)] [(false, [.ct (.i .i64)])] (fun _ => (.s (.r [0, 0] none) .n))
noncomputable def fi44 : FI := mkFI Try.f44 0 [.ct (.sl 9), .ct (.i .i64)] [(false, [.ct (.i .i64)])] (fun _ => (.s .n (.s .n (.s .n (.s (.s .n (.b (.b (.s .n (.s (.b .n ⟨ol 9 :: oi :: uu 3 (oi :: uu 22 []), []⟩) .n)) ⟨ol 9 :: oi :: uu 3 (oi :: uu 22 []), []⟩) ⟨ou :: oi :: uu 26 [], []⟩)) .n)))))
noncomputable def fi63 : FI := mkFI Try.f63 0 [.ct (.sl 134), .ct (.i .i64)] [(false, [.ct (.i .i64)])] (fun _ => (.s .n (.s .n (.s .n (.s (.s .n (.b (.b (.s .n (.s (.b .n ⟨ol 134 :: oi :: uu 3 (oi :: uu 21 []), []⟩) .n)) ⟨ol 134 :: oi :: uu 3 (oi :: uu 21 []), []⟩) ⟨ou :: oi :: uu 25 [], []⟩)) .n)))))
noncomputable def fi7 : FI := mkFI Try.f7 0 [.ct (.sl 76), .ct (.i .i64)] [(false, [.ct (.i .i64)])] (fun _ => (.s .n (.s .n (.s .n (.s (.s .n (.b (.b (.s .n (.s (.b .n ⟨ol 76 :: oi :: uu 3 (oi :: uu 21 []), []⟩) .n)) ⟨ol 76 :: oi :: uu 3 (oi :: uu 21 []), []⟩) ⟨ou :: oi :: uu 25 [], []⟩)) .n)))))
noncomputable def fi64 : FI := mkFI Try.f64 0 [.ct (.sl 137), .ct (.i .i64)] [(false, [.ct (.i .i64)])] (fun _ => (.s .n (.s .n (.s .n (.s (.s .n (.b (.b (.s .n (.s (.b .n ⟨ol 137 :: oi :: uu 3 (oi :: uu 21 []), []⟩) .n)) ⟨ol 137 :: oi :: uu 3 (oi :: uu 21 []), []⟩) ⟨ou :: oi :: uu 25 [], []⟩)) .n)))))
noncomputable def fi65 : FI := mkFI Try.f65 0 [.ct (.sl 139), .ct (.i .i64)] [(false, [.ct (.i .i64)])] (fun _ => (.s .n (.s .n (.s .n (.s (.s .n (.b (.b (.s .n (.s (.b .n ⟨ol 139 :: oi :: uu 3 (oi :: uu 21 []), []⟩) .n)) ⟨ol 139 :: oi :: uu 3 (oi :: uu 21 []), []⟩) ⟨ou :: oi :: uu 25 [], []⟩)) .n)))))
noncomputable def fi66 : FI := mkFI Try.f66 0 [.ct (.sl 143), .ct (.i .i64)] [(false, [.ct (.i .i64)])] (fun _ => (.s .n (.s .n (.s .n (.s (.s .n (.b (.b (.s .n (.s (.b .n ⟨ol 143 :: oi :: uu 3 (oi :: uu 21 []), []⟩) .n)) ⟨ol 143 :: oi :: uu 3 (oi :: uu 21 []), []⟩) ⟨ou :: oi :: uu 25 [], []⟩)) .n)))))
noncomputable def fi48 : FI := mkFI Try.f48 4 [.ct (.sl 9)] [(false, [.new 9])] (fun _ => (.s .n (.s (.r [0, 0, 0, 0] none) (.s (.s .n (.b (.b (.s .n (.s (.b .n ⟨ol 9 :: ou :: ou :: .one (.own 9 2) :: oi :: uu 17 [], vv 4 []⟩) .n)) ⟨ol 9 :: ou :: ou :: .one (.own 9 1) :: oi :: uu 17 [], vv 4 []⟩) ⟨uu 3 (.one (.own 9 3) :: uu 18 []), vv 4 []⟩)) .n))))
noncomputable def fi68 : FI := mkFI Try.f68 7 [.ct (.sl 134)] [(false, [.new 1127])] (fun _ => (.s .n (.s (.r [0, 0, 1, 0] none) (.s (.s .n (.b (.b (.s .n (.s (.b (.r [0, 0, 0, 0, 0, 0, 3, 0, 0] none) ⟨ol 134 :: ou :: ou :: .one (.own 1127 5) :: oi :: uu 18 [], vv 7 []⟩) .n)) ⟨ol 134 :: ou :: ou :: .one (.own 1127 2) :: oi :: uu 18 [], vv 7 []⟩) ⟨uu 3 (.one (.own 1127 6) :: uu 19 []), vv 7 []⟩)) .n))))
noncomputable def fi9 : FI := mkFI Try.f9 8 [.ct (.sl 76)] [(false, [.new 1083])] (fun _ => (.s .n (.s (.r [0, 0, 1, 0] none) (.s (.s .n (.b (.b (.s .n (.s (.b (.r [0, 0, 0, 0, 0, 0, 3, 0, 0] none) ⟨ol 76 :: ou :: ou :: .one (.own 1083 6) :: oi :: uu 18 [], vv 8 []⟩) .n)) ⟨ol 76 :: ou :: ou :: .one (.own 1083 2) :: oi :: uu 18 [], vv 8 []⟩) ⟨uu 3 (.one (.own 1083 7) :: uu 19 []), vv 8 []⟩)) .n))))
noncomputable def fi69 : FI := mkFI Try.f69 6 [.ct (.sl 137)] [(false, [.new 1129])] (fun _ => (.s .n (.s (.r [0, 0, 1, 0] none) (.s (.s .n (.b (.b (.s .n (.s (.b (.r [0, 0, 0, 0, 0, 0, 3, 0, 0] none) ⟨ol 137 :: ou :: ou :: .one (.own 1129 4) :: oi :: uu 18 [], vv 6 []⟩) .n)) ⟨ol 137 :: ou :: ou :: .one (.own 1129 2) :: oi :: uu 18 [], vv 6 []⟩) ⟨uu 3 (.one (.own 1129 5) :: uu 19 []), vv 6 []⟩)) .n))))
noncomputable def fi70 : FI := mkFI Try.f70 4 [.ct (.sl 139)] [(false, [.new 131])] (fun _ => (.s .n (.s (.r [0, 0, 0, 0] none) (.s (.s .n (.b (.b (.s .n (.s (.b .n ⟨ol 139 :: ou :: ou :: .one (.own 131 2) :: oi :: uu 18 [], vv 4 []⟩) .n)) ⟨ol 139 :: ou :: ou :: .one (.own 131 1) :: oi :: uu 18 [], vv 4 []⟩) ⟨uu 3 (.one (.own 131 3) :: uu 19 []), vv 4 []⟩)) .n))))
noncomputable def fi71 : FI := mkFI Try.f71 6 [.ct (.sl 143)] [(false, [.new 1122])] (fun _ => (.s .n (.s (.r [0, 0, 1, 0] none) (.s (.s .n (.b (.b (.s .n (.s (.b (.r [0, 0, 0, 0, 0, 0, 3, 0, 0] none) ⟨ol 143 :: ou :: ou :: .one (.own 1122 4) :: oi :: uu 18 [], vv 6 []⟩) .n)) ⟨ol 143 :: ou :: ou :: .one (.own 1122 2) :: oi :: uu 18 [], vv 6 []⟩) ⟨uu 3 (.one (.own 1122 5) :: uu 19 []), vv 6 []⟩)) .n))))
noncomputable def fi67 : FI := mkFI Try.f67 11 [.ag [.i .i64, .b, .s, .s, .sl 9, .sl 127, .sl 83, .sl 129, .sl 131, .b, .sl 122]] [(true, [.ct (.i .i64), .ct .b, .ct .s, .ct .s, .new 9, .new 1127, .new 1083, .new 1129, .new 131, .ct .b, .new 1122])] (fun _ => (.s (.r [0, 1] none) (.s (.r [2, 0, 0, 3, 0, 0] none) (.s (.r [0, 0, 4, 0, 0] none) (.s (.r [0, 0, 5, 0, 0] none) (.s (.r [0, 0, 6, 0, 0] none) (.s (.r [8, 0, 0, 9, 0, 0] none) (.s (.r [0, 0, 10, 0, 0] none) .n))))))))
noncomputable def fi72 : FI := mkFI Try.f72 8 [.ag [.i .i64, .b, .s, .s, .sl 9, .sl 127, .sl 83, .sl 129, .sl 131, .b, .sl 122]] [(true, [.ct (.i .i64), .ct .b, .ct .s, .ct .s, .new 9, .new 1127, .new 1083, .new 1129, .new 131, .ct .b, .new 1122])] (fun _ => (.s (.r [0, 1] none) (.s (.r [0, 0, 2, 0, 0] none) (.s (.r [0, 0, 3, 0, 0] none) (.s (.r [0, 0, 4, 0, 0] none) (.s (.r [0, 0, 5, 0, 0] none) (.s (.r [0, 0, 6, 0, 0] none) (.s (.r [0, 0, 7, 0, 0] none) .n))))))))
noncomputable def fi11 : FI := mkFI Try.f11 0 [.ct (.sl 9), .ct (.sl 9)] [(false, [.ct .b])] (fun _ => (.s .n (.s .n (.s (.s .n (.b (.b (.s .n (.s (.b .n ⟨ol 9 :: ol 9 :: uu 3 (oi :: uu 20 []), []⟩) .n)) ⟨ol 9 :: ol 9 :: uu 3 (oi :: uu 20 []), []⟩) ⟨uu 26 [], []⟩)) .n))))
noncomputable def fi73 : FI := mkFI Try.f73 0 [.ct (.sl 127), .ct (.sl 127)] [(false, [.ct .b])] (fun _ => (.s .n (.s .n (.s (.s .n (.b (.b (.s .n (.s (.b .n ⟨ol 127 :: ol 127 :: uu 3 (oi :: uu 21 []), []⟩) .n)) ⟨ol 127 :: ol 127 :: uu 3 (oi :: uu 21 []), []⟩) ⟨uu 27 [], []⟩)) .n))))
noncomputable def fi12 : FI := mkFI Try.f12 0 [.ct (.sl 83), .ct (.sl 83)] [(false, [.ct .b])] (fun _ => (.s .n (.s .n (.s (.s .n (.b (.b (.s .n (.s (.b .n ⟨ol 83 :: ol 83 :: uu 3 (oi :: uu 21 []), []⟩) .n)) ⟨ol 83 :: ol 83 :: uu 3 (oi :: uu 21 []), []⟩) ⟨uu 27 [], []⟩)) .n))))
noncomputable def fi74 : FI := mkFI Try.f74 0 [.ct (.sl 129), .ct (.sl 129)] [(false, [.ct .b])] (fun _ => (.s .n (.s .n (.s (.s .n (.b (.b (.s .n (.s (.b .n ⟨ol 129 :: ol 129 :: uu 3 (oi :: uu 21 []), []⟩) .n)) ⟨ol 129 :: ol 129 :: uu 3 (oi :: uu 21 []), []⟩) ⟨uu 27 [], []⟩)) .n))))
noncomputable def fi75 : FI := mkFI Try.f75 0 [.ct (.sl 131), .ct (.sl 131)] [(false, [.ct .b])] (fun _ => (.s .n (.s .n (.s (.s .n (.b (.b (.s .n (.s (.b .n ⟨ol 131 :: ol 131 :: uu 3 (oi :: uu 21 []), []⟩) .n)) ⟨ol 131 :: ol 131 :: uu 3 (oi :: uu 21 []), []⟩) ⟨uu 27 [], []⟩)) .n))))
noncomputable def fi76 : FI := mkFI Try.f76 0 [.ct (.sl 122), .ct (.sl 122)] [(false, [.ct .b])] (fun _ => (.s .n (.s .n (.s (.s .n (.b (.b (.s .n (.s (.b .n ⟨ol 122 :: ol 122 :: uu 3 (oi :: uu 21 []), []⟩) .n)) ⟨ol 122 :: ol 122 :: uu 3 (oi :: uu 21 []), []⟩) ⟨uu 27 [], []⟩)) .n))))
noncomputable def fi15 : FI := mkFI Try.f15 0 [.ct (.sl 9), .ct (.i .i64)] [(false, [.ct (.i .i64)])] (fun _ => (.s .n (.s (.s .n (.b (.b (.s .n (.s (.b .n ⟨ol 9 :: oi :: uu 3 (oi :: uu 16 []), []⟩) .n)) ⟨ol 9 :: oi :: uu 3 (oi :: uu 16 []), []⟩) ⟨ou :: oi :: uu 20 [], []⟩)) .n)))
noncomputable def fi58 : FI := mkFI Try.f58 0 [.ct (.sl 127), .ct (.i .i64)] [(false, [.ct (.i .i64)])] (fun _ => (.s .n (.s (.s .n (.b (.b (.s .n (.s (.b .n ⟨ol 127 :: oi :: uu 3 (oi :: uu 67 []), []⟩) .n)) ⟨ol 127 :: oi :: uu 3 (oi :: uu 67 []), []⟩) ⟨ou :: oi :: uu 71 [], []⟩)) .n)))
noncomputable def fi59 : FI := mkFI Try.f59 0 [.ct (.sl 83), .ct (.i .i64)] [(false, [.ct (.i .i64)])] (fun _ => (.s .n (.s (.s .n (.b (.b (.s .n (.s (.b .n ⟨ol 83 :: oi :: uu 3 (oi :: uu 110 []), []⟩) .n)) ⟨ol 83 :: oi :: uu 3 (oi :: uu 110 []), []⟩) ⟨ou :: oi :: uu 114 [], []⟩)) .n)))
noncomputable def fi60 : FI := mkFI Try.f60 0 [.ct (.sl 129), .ct (.i .i64)] [(false, [.ct (.i .i64)])] (fun _ => (.s .n (.s (.s .n (.b (.b (.s .n (.s (.b .n ⟨ol 129 :: oi :: uu 3 (oi :: uu 36 []), []⟩) .n)) ⟨ol 129 :: oi :: uu 3 (oi :: uu 36 []), []⟩) ⟨ou :: oi :: uu 40 [], []⟩)) .n)))
noncomputable def fi61 : FI := mkFI Try.f61 0 [.ct (.sl 131), .ct (.i .i64)] [(false, [.ct (.i .i64)])] (fun _ => (.s .n (.s (.s .n (.b (.b (.s .n (.s (.b .n ⟨ol 131 :: oi :: uu 3 (oi :: uu 26 []), []⟩) .n)) ⟨ol 131 :: oi :: uu 3 (oi :: uu 26 []), []⟩) ⟨ou :: oi :: uu 30 [], []⟩)) .n)))
noncomputable def fi62 : FI := mkFI Try.f62 0 [.ct (.sl 122), .ct (.i .i64)] [(false, [.ct (.i .i64)])] (fun _ => (.s .n (.s (.s .n (.b (.b (.s .n (.s (.b .n ⟨ol 122 :: oi :: uu 3 (oi :: uu 26 []), []⟩) .n)) ⟨ol 122 :: oi :: uu 3 (oi :: uu 26 []), []⟩) ⟨ou :: oi :: uu 30 [], []⟩)) .n)))
noncomputable def fi90 : FI := mkFI Try.f90 1 [.ag [.s, .s, .sl 76, .s, .s, .sl 143], .ct (.i .i64)] [(false, [.ct (.i .i64)])] (fun _ => (.s (.r [0, 0] none) .n))
noncomputable def fi35 : FI := mkFI Try.f35 1 [.ag [.s, .s, .s, .s, .b, .i .i64, .s, .sl 74, .sl 9, .sl 143], .ct (.i .i64)] [(false, [.ct (.i .i64)])] (fun _ => (.s (.r [0, 0] none) .n))
noncomputable def fi91 : FI := mkFI Try.f91 1 [.ag [.s, .s, .sl 143], .ct (.i .i64)] [(false, [.ct (.i .i64)])] (fun _ => (.s (.r [0, 0] none) .n))
noncomputable def fi92 : FI := mkFI Try.f92 1 [.ag [.i .i64, .s], .ct (.i .i64)] [(false, [.ct (.i .i64)])] (fun _ => (.s (.r [0, 0] none) .n))
noncomputable def fi93 : FI := mkFI Try.f93 1 [.ag [.s, .sl 169], .ct (.i .i64)] [(false, [.ct (.i .i64)])] (fun _ => (.s (.r [0, 0] none) .n))
noncomputable def fi98 : FI := mkFI Try.f98 5 [.ag [.s, .s, .sl 76, .s, .s, .sl 143]] [(true, [.ct .s, .ct .s, .new 1083, .ct .s, .ct .s, .new 1122])] (fun _ => (.s (.r [0, 1] none) (.s (.r [2] none) (.s .n (.s .n (.s (.r [0, 0, 3, 0, 0] none) (.s .n (.s (.r [0, 0, 4, 0, 0] none) .n))))))))
noncomputable def fi37 : FI := mkFI Try.f37 6 [.ag [.s, .s, .s, .s, .b, .i .i64, .s, .sl 74, .sl 9, .sl 143]] [(true, [.ct .s, .ct .s, .ct .s, .ct .s, .ct .b, .ct (.i .i64), .ct .s, .new 1081, .new 9, .new 1122])] (fun _ => (.s (.r [0, 1] none) (.s (.r [2] none) (.s .n (.s .n (.s .n (.s .n (.s (.r [0, 0, 3, 0, 0] none) (.s (.r [0, 0, 5, 0, 0] none) .n)))))))))
noncomputable def fi99 : FI := mkFI Try.f99 4 [.ag [.s, .s, .sl 143]] [(true, [.ct .s, .ct .s, .new 1122])] (fun _ => (.s (.r [0, 1] none) (.s (.r [2] none) (.s .n (.s .n (.s (.r [0, 0, 3, 0, 0] none) .n))))))
noncomputable def fi100 : FI := mkFI Try.f100 3 [.ag [.i .i64, .s]] [(true, [.ct (.i .i64), .ct .s])] (fun _ => (.s (.r [0, 1] none) (.s (.r [2] none) .n)))
noncomputable def fi101 : FI := mkFI Try.f101 4 [.ag [.s, .sl 169]] [(true, [.ct .s, .new 1161])] (fun _ => (.s (.r [0, 1] none) (.s (.r [2] none) (.s .n (.s (.r [0, 0, 3, 0, 0] none) .n)))))
noncomputable def fi94 : FI := mkFI Try.f94 11 [.ct (.sl 127)] [(false, [.new 1127])] (fun _ => (.s .n (.s (.r [1, 0] none) (.s (.s .n (.b (.b (.s .n (.s (.b (.s (.r [0, 0, 0, 0, 3, 0] none) (.s (.r [0, 0, 4, 0, 0] none) (.s (.r [0, 0, 5, 0, 0] none) (.r [0, 0, 7, 8, 0] none)))) ⟨ol 127 :: ou :: ou :: .one (.own 1127 9) :: oi :: uu 25 [], vv 11 []⟩) .n)) ⟨ol 127 :: ou :: ou :: .one (.own 1127 2) :: oi :: uu 25 [], vv 11 []⟩) ⟨uu 3 (.one (.own 1127 10) :: uu 26 []), vv 11 []⟩)) .n))))
noncomputable def fi95 : FI := mkFI Try.f95 11 [.ct (.sl 83)] [(false, [.new 1083])] (fun _ => (.s .n (.s (.r [1, 0] none) (.s (.s .n (.b (.b (.s .n (.s (.b (.s (.r [0, 0, 0, 0, 3, 0] none) (.s (.r [0, 0, 4, 0, 0] none) (.s (.r [0, 0, 6, 0, 0] none) (.r [0, 0, 7, 8, 0] none)))) ⟨ol 83 :: ou :: ou :: .one (.own 1083 9) :: oi :: uu 25 [], vv 11 []⟩) .n)) ⟨ol 83 :: ou :: ou :: .one (.own 1083 2) :: oi :: uu 25 [], vv 11 []⟩) ⟨uu 3 (.one (.own 1083 10) :: uu 26 []), vv 11 []⟩)) .n))))
noncomputable def fi96 : FI := mkFI Try.f96 9 [.ct (.sl 129)] [(false, [.new 1129])] (fun _ => (.s .n (.s (.r [1, 0] none) (.s (.s .n (.b (.b (.s .n (.s (.b (.s (.r [0, 0, 0, 0, 3, 0] none) (.s (.r [0, 0, 4, 0, 0] none) (.r [0, 0, 5, 6, 0] none))) ⟨ol 129 :: ou :: ou :: .one (.own 1129 7) :: oi :: uu 21 [], vv 9 []⟩) .n)) ⟨ol 129 :: ou :: ou :: .one (.own 1129 2) :: oi :: uu 21 [], vv 9 []⟩) ⟨uu 3 (.one (.own 1129 8) :: uu 22 []), vv 9 []⟩)) .n))))
noncomputable def fi97 : FI := mkFI Try.f97 9 [.ct (.sl 122)] [(false, [.new 1122])] (fun _ => (.s .n (.s (.r [1, 0] none) (.s (.s .n (.b (.b (.s .n (.s (.b (.r [0, 0, 0, 0, 0, 0, 0, 0, 0, 0, 0, 3, 0, 5, 6, 0] none) ⟨ol 122 :: ou :: ou :: .one (.own 1122 7) :: oi :: uu 23 [], vv 9 []⟩) .n)) ⟨ol 122 :: ou :: ou :: .one (.own 1122 2) :: oi :: uu 23 [], vv 9 []⟩) ⟨uu 3 (.one (.own 1122 8) :: uu 24 []), vv 9 []⟩)) .n))))
noncomputable def fi87 : FI := { mkFI Try.f87 4 [.ct (.sl 9)] [(false, [.new 9])] (fun _ => .n) with prim := some (primC 9) }
noncomputable def ac87 : AC := ann (clCond (Try.f87.body.getD .skip)) .n
noncomputable def ar87 : AC := ann (clRest (Try.f87.body.getD .skip)) (.s (.r [0, 0, 2, 0] none) .n)
theorem cl87 : ∀ b l, (b = true → l = []) → l.length < LIM → clRun (fun t => look t tyL) fi87 9 ac87 ar87 b l = .ret [.sl l] := by
  intro b l h1 h2
  cases b with
  | true =>
    obtain rfl := h1 rfl
    kernel_rfl
  | false =>
    refine (show clRun (fun t => look t tyL) fi87 9 ac87 ar87 false l = (if ([] : List (List DC)).length + l.length < LIM then Out.ret [.sl ([] ++ l)] else .fail) from by kernel_rfl).trans ?_
    rw [if_pos (by simpa using h2), List.nil_append]
noncomputable def fi102 : FI := mkFI Try.f102 8 [.ct (.sl 127)] [(false, [.new 1127])] (fun _ => (.s .n (.s .n (.s (.s .n (.b (.b (.s .n (.s .n (.s (.b (.s (.r [0, 0, 0, 0] none) (.s (.r [0, 0, 1, 0, 0] none) (.s (.r [0, 0, 2, 0, 0] none) (.r [0, 0, 3, 4, 0] none)))) ⟨uu 3 (.one (.own 1127 5) :: ou :: ou :: ol 127 :: oi :: oi :: uu 17 []), vv 8 []⟩) .n))) ⟨uu 3 (.one (.own 1127 6) :: ou :: ou :: ol 127 :: oi :: oi :: uu 17 []), vv 8 []⟩) ⟨uu 3 (.one (.own 1127 7) :: uu 22 []), vv 8 []⟩)) .n))))
noncomputable def fi103 : FI := mkFI Try.f103 10 [.ct (.sl 83)] [(false, [.new 1083])] (fun _ => (.s .n (.s .n (.s (.s .n (.b (.b (.s .n (.s .n (.s (.b (.s (.r [0, 0, 0, 0] none) (.s (.r [0, 0, 1, 0, 0] none) (.s (.r [0, 0, 3, 0, 0] none) (.r [0, 0, 5, 6, 0] none)))) ⟨uu 3 (.one (.own 1083 7) :: ou :: ou :: ol 83 :: oi :: oi :: uu 17 []), vv 10 []⟩) .n))) ⟨uu 3 (.one (.own 1083 8) :: ou :: ou :: ol 83 :: oi :: oi :: uu 17 []), vv 10 []⟩) ⟨uu 3 (.one (.own 1083 9) :: uu 22 []), vv 10 []⟩)) .n))))
noncomputable def fi104 : FI := mkFI Try.f104 8 [.ct (.sl 129)] [(false, [.new 1129])] (fun _ => (.s .n (.s .n (.s (.s .n (.b (.b (.s .n (.s .n (.s (.b (.s (.r [0, 0, 0, 0] none) (.s (.r [0, 0, 1, 0, 0] none) (.r [0, 0, 3, 4, 0] none))) ⟨uu 3 (.one (.own 1129 5) :: ou :: ou :: ol 129 :: oi :: oi :: uu 13 []), vv 8 []⟩) .n))) ⟨uu 3 (.one (.own 1129 6) :: ou :: ou :: ol 129 :: oi :: oi :: uu 13 []), vv 8 []⟩) ⟨uu 3 (.one (.own 1129 7) :: uu 18 []), vv 8 []⟩)) .n))))
noncomputable def fi105 : FI := { mkFI Try.f105 4 [.ct (.sl 131)] [(false, [.new 131])] (fun _ => .n) with prim := some (primC 131) }
noncomputable def ac105 : AC := ann (clCond (Try.f105.body.getD .skip)) .n
noncomputable def ar105 : AC := ann (clRest (Try.f105.body.getD .skip)) (.s (.r [0, 0, 2, 0] none) .n)
theorem cl105 : ∀ b l, (b = true → l = []) → l.length < LIM → clRun (fun t => look t tyL) fi105 131 ac105 ar105 b l = .ret [.sl l] := by
  intro b l h1 h2
  cases b with
  | true =>
    obtain rfl := h1 rfl
    kernel_rfl
  | false =>
    refine (show clRun (fun t => look t tyL) fi105 131 ac105 ar105 false l = (if ([] : List (List DC)).length + l.length < LIM then Out.ret [.sl ([] ++ l)] else .fail) from by kernel_rfl).trans ?_
    rw [if_pos (by simpa using h2), List.nil_append]
noncomputable def fi106 : FI := mkFI Try.f106 8 [.ct (.sl 122)] [(false, [.new 1122])] (fun _ => (.s .n (.s .n (.s (.s .n (.b (.b (.s .n (.s .n (.s (.b (.s (.r [0, 0, 0, 0] none) (.r [0, 0, 0, 0, 0, 1, 0, 3, 4, 0] none)) ⟨uu 3 (.one (.own 1122 5) :: ou :: ou :: ol 122 :: oi :: oi :: uu 14 []), vv 8 []⟩) .n))) ⟨uu 3 (.one (.own 1122 6) :: ou :: ou :: ol 122 :: oi :: oi :: uu 14 []), vv 8 []⟩) ⟨uu 3 (.one (.own 1122 7) :: uu 19 []), vv 8 []⟩)) .n))))
noncomputable def fi107 : FI := mkFI Try.f107 2 [.ag [.s, .s, .sl 83, .s, .s, .sl 122], .ag [.s, .s, .sl 83, .s, .s, .sl 122]] [(false, [.ct .b])] (fun _ => (.s (.r [0, 1, 0] none) .n))
noncomputable def fi39 : FI := mkFI Try.f39 2 [.ag [.s, .s, .s, .s, .b, .i .i64, .s, .sl 81, .sl 9, .sl 122], .ag [.s, .s, .s, .s, .b, .i .i64, .s, .sl 81, .sl 9, .sl 122]] [(false, [.ct .b])] (fun _ => (.s (.r [0, 1, 0] none) .n))
noncomputable def fi108 : FI := mkFI Try.f108 2 [.ag [.s, .s, .sl 122], .ag [.s, .s, .sl 122]] [(false, [.ct .b])] (fun _ => (.s (.r [0, 1, 0] none) .n))
noncomputable def fi109 : FI := mkFI Try.f109 2 [.ag [.i .i64, .s], .ag [.i .i64, .s]] [(false, [.ct .b])] (fun _ => (.s (.r [0, 1, 0] none) .n))
noncomputable def fi110 : FI := mkFI Try.f110 2 [.ag [.s, .sl 161], .ag [.s, .sl 161]] [(false, [.ct .b])] (fun _ => (.s (.r [0, 1, 0] none) .n))
noncomputable def fi88 : FI := mkFI Try.f88 0 [.ct (.sl 81), .ct (.i .i64)] [(false, [.ct (.i .i64)])] (fun _ => (.s .n (.s (.s .n (.b (.b (.s .n (.s (.b .n ⟨ol 81 :: oi :: uu 3 (oi :: uu 44 []), []⟩) .n)) ⟨ol 81 :: oi :: uu 3 (oi :: uu 44 []), []⟩) ⟨ou :: oi :: uu 48 [], []⟩)) .n)))
noncomputable def fi89 : FI := mkFI Try.f89 0 [.ct (.sl 161), .ct (.i .i64)] [(false, [.ct (.i .i64)])] (fun _ => (.s .n (.s (.s .n (.b (.b (.s .n (.s (.b .n ⟨ol 161 :: oi :: uu 3 (oi :: uu 58 []), []⟩) .n)) ⟨ol 161 :: oi :: uu 3 (oi :: uu 58 []), []⟩) ⟨ou :: oi :: uu 62 [], []⟩)) .n)))
noncomputable def fi77 : FI := mkFI Try.f77 1 [.ag [.s, .s], .ct (.i .i64)] [(false, [.ct (.i .i64)])] (fun _ => (.s (.r [0, 0] none) .n))
noncomputable def fi78 : FI := mkFI Try.f78 1 [.ag [.i .i64, .s, .sl 74, .sl 9], .ct (.i .i64)] [(false, [.ct (.i .i64)])] (fun _ => (.s (.r [0, 0] none) .n))
noncomputable def fi115 : FI := mkFI Try.f115 0 [.ct (.sl 169), .ct (.i .i64)] [(false, [.ct (.i .i64)])] (fun _ => (.s .n (.s .n (.s .n (.s (.s .n (.b (.b (.s .n (.s (.b .n ⟨ol 169 :: oi :: uu 3 (oi :: uu 21 []), []⟩) .n)) ⟨ol 169 :: oi :: uu 3 (oi :: uu 21 []), []⟩) ⟨ou :: oi :: uu 25 [], []⟩)) .n)))))
noncomputable def fi79 : FI := mkFI Try.f79 3 [.ag [.s, .s]] [(true, [.ct .s, .ct .s])] (fun _ => (.s (.r [0, 1] none) (.s (.r [2] none) .n)))
noncomputable def fi80 : FI := mkFI Try.f80 5 [.ag [.i .i64, .s, .sl 74, .sl 9]] [(true, [.ct (.i .i64), .ct .s, .new 1081, .new 9])] (fun _ => (.s (.r [0, 1] none) (.s (.r [2] none) (.s .n (.s .n (.s (.r [0, 0, 3, 0, 0] none) (.s (.r [0, 0, 4, 0, 0] none) .n)))))))
noncomputable def fi118 : FI := mkFI Try.f118 7 [.ct (.sl 169)] [(false, [.new 1161])] (fun _ => (.s .n (.s (.r [0, 0, 1, 0] none) (.s (.s .n (.b (.b (.s .n (.s (.b (.r [0, 0, 0, 0, 0, 0, 3, 0, 0] none) ⟨ol 169 :: ou :: ou :: .one (.own 1161 5) :: oi :: uu 18 [], vv 7 []⟩) .n)) ⟨ol 169 :: ou :: ou :: .one (.own 1161 2) :: oi :: uu 18 [], vv 7 []⟩) ⟨uu 3 (.one (.own 1161 6) :: uu 19 []), vv 7 []⟩)) .n))))
noncomputable def fi116 : FI := mkFI Try.f116 16 [.ag [.i .i64, .s, .sl 81, .sl 9]] [(true, [.ct (.i .i64), .ct .s, .new 1081, .new 9])] (fun _ => (.s (.r [0, 1] none) (.s (.r [0, 0, 0, 0, 2, 0, 0, 3, 0, 4, 0] none) (.s (.s .n (.b (.b (.s .n (.s (.b (.r [0, 0, 0, 0, 0, 0, 0, 6, 9, 10, 0, 0] none) ⟨ou :: .one (.ptr 0 0) :: .one (.ptr 1 0) :: .one (.ptr 4 0) :: oi :: uu 28 [], .var 81 [.i .i64, .s, .sl 81, .sl 9] :: .var 81 [.i .i64, .s, .nil, .nil] :: .u :: .u :: .var 81 [.i .i64, .s, .own 1081 11, .own 9 12] :: vv 11 []⟩) .n)) ⟨ou :: .one (.ptr 0 0) :: .one (.ptr 1 0) :: .one (.ptr 4 0) :: oi :: uu 28 [], .var 81 [.i .i64, .s, .sl 81, .sl 9] :: .var 81 [.i .i64, .s, .nil, .nil] :: .u :: .u :: .var 81 [.i .i64, .s, .own 1081 13, .own 9 5] :: vv 11 []⟩) ⟨ou :: ou :: .one (.ptr 1 0) :: .one (.ptr 4 0) :: uu 29 [], .u :: .var 81 [.i .i64, .s, .nil, .nil] :: .u :: .u :: .var 81 [.i .i64, .s, .own 1081 14, .own 9 15] :: vv 11 []⟩)) .n))))
noncomputable def fi117 : FI := mkFI Try.f117 9 [.ct (.sl 161)] [(false, [.new 1161])] (fun _ => (.s .n (.s (.r [1, 0] none) (.s (.s .n (.b (.b (.s .n (.s (.b (.r [0, 0, 0, 0, 0, 0, 0, 0, 0, 0, 0, 3, 0, 5, 6, 0] none) ⟨ol 161 :: ou :: ou :: .one (.own 1161 7) :: oi :: uu 23 [], vv 9 []⟩) .n)) ⟨ol 161 :: ou :: ou :: .one (.own 1161 2) :: oi :: uu 23 [], vv 9 []⟩) ⟨uu 3 (.one (.own 1161 8) :: uu 24 []), vv 9 []⟩)) .n))))
noncomputable def fi119 : FI := mkFI Try.f119 16 [.ag [.i .i64, .s, .sl 81, .sl 9]] [(true, [.ct (.i .i64), .ct .s, .new 1081, .new 9])] (fun _ => (.s (.r [0, 1] none) (.s (.r [0, 0, 0, 0, 0, 0, 2, 0, 3, 0] none) (.s (.s .n (.b (.b (.s .n (.s .n (.s (.b (.s (.r [0, 0, 5, 0] none) (.r [0, 0, 0, 6, 9, 10, 0, 0] none)) ⟨ou :: ou :: .one (.ptr 1 0) :: .one (.ptr 3 0) :: uu 11 (ol 81 :: oi :: oi :: uu 12 []), .u :: .var 81 [.i .i64, .s, .nil, .nil] :: .u :: .var 81 [.i .i64, .s, .own 1081 11, .own 9 12] :: vv 12 []⟩) .n))) ⟨ou :: ou :: .one (.ptr 1 0) :: .one (.ptr 3 0) :: uu 11 (ol 81 :: oi :: oi :: uu 12 []), .u :: .var 81 [.i .i64, .s, .nil, .nil] :: .u :: .var 81 [.i .i64, .s, .own 1081 13, .own 9 4] :: vv 12 []⟩) ⟨ou :: ou :: .one (.ptr 1 0) :: .one (.ptr 3 0) :: uu 26 [], .u :: .var 81 [.i .i64, .s, .nil, .nil] :: .u :: .var 81 [.i .i64, .s, .own 1081 14, .own 9 15] :: vv 12 []⟩)) .n))))
noncomputable def fi120 : FI := mkFI Try.f120 8 [.ct (.sl 161)] [(false, [.new 1161])] (fun _ => (.s .n (.s .n (.s (.s .n (.b (.b (.s .n (.s .n (.s (.b (.s (.r [0, 0, 0, 0] none) (.r [0, 0, 0, 0, 0, 1, 0, 3, 4, 0] none)) ⟨uu 3 (.one (.own 1161 5) :: ou :: ou :: ol 161 :: oi :: oi :: uu 14 []), vv 8 []⟩) .n))) ⟨uu 3 (.one (.own 1161 6) :: ou :: ou :: ol 161 :: oi :: oi :: uu 14 []), vv 8 []⟩) ⟨uu 3 (.one (.own 1161 7) :: uu 19 []), vv 8 []⟩)) .n))))
noncomputable def fi82 : FI := mkFI Try.f82 2 [.ag [.s, .s], .ag [.s, .s]] [(false, [.ct .b])] (fun _ => (.s (.r [0, 1, 0] none) .n))
noncomputable def fi83 : FI := mkFI Try.f83 2 [.ag [.i .i64, .s, .sl 81, .sl 9], .ag [.i .i64, .s, .sl 81, .sl 9]] [(false, [.ct .b])] (fun _ => (.s (.r [0, 1, 0] none) .n))
noncomputable def fi121 : FI := mkFI Try.f121 0 [.ct (.sl 161), .ct (.sl 161)] [(false, [.ct .b])] (fun _ => (.s .n (.s .n (.s (.s .n (.b (.b (.s .n (.s (.b .n ⟨ol 161 :: ol 161 :: uu 3 (oi :: uu 21 []), []⟩) .n)) ⟨ol 161 :: ol 161 :: uu 3 (oi :: uu 21 []), []⟩) ⟨uu 27 [], []⟩)) .n))))
noncomputable def fi111 : FI := mkFI Try.f111 0 [.ct (.sl 74), .ct (.i .i64)] [(false, [.ct (.i .i64)])] (fun _ => (.s .n (.s .n (.s .n (.s (.s .n (.b (.b (.s .n (.s (.b .n ⟨ol 74 :: oi :: uu 3 (oi :: uu 21 []), []⟩) .n)) ⟨ol 74 :: oi :: uu 3 (oi :: uu 21 []), []⟩) ⟨ou :: oi :: uu 25 [], []⟩)) .n)))))
noncomputable def fi122 : FI := mkFI Try.f122 1 [.ag [.s, .i .i64, .s, .sl 74, .sl 9], .ct (.i .i64)] [(false, [.ct (.i .i64)])] (fun _ => (.s (.r [0, 0] none) .n))
noncomputable def fi112 : FI := mkFI Try.f112 7 [.ct (.sl 74)] [(false, [.new 1081])] (fun _ => (.s .n (.s (.r [0, 0, 1, 0] none) (.s (.s .n (.b (.b (.s .n (.s (.b (.r [0, 0, 0, 0, 0, 0, 3, 0, 0] none) ⟨ol 74 :: ou :: ou :: .one (.own 1081 5) :: oi :: uu 18 [], vv 7 []⟩) .n)) ⟨ol 74 :: ou :: ou :: .one (.own 1081 2) :: oi :: uu 18 [], vv 7 []⟩) ⟨uu 3 (.one (.own 1081 6) :: uu 19 []), vv 7 []⟩)) .n))))
noncomputable def fi123 : FI := mkFI Try.f123 5 [.ag [.s, .i .i64, .s, .sl 74, .sl 9]] [(true, [.ct .s, .ct (.i .i64), .ct .s, .new 1081, .new 9])] (fun _ => (.s (.r [0, 1] none) (.s (.r [2] none) (.s .n (.s (.r [0, 0, 3, 0, 0] none) .n)))))
noncomputable def fi114 : FI := mkFI Try.f114 0 [.ct (.sl 81), .ct (.sl 81)] [(false, [.ct .b])] (fun _ => (.s .n (.s .n (.s (.s .n (.b (.b (.s .n (.s (.b .n ⟨ol 81 :: ol 81 :: uu 3 (oi :: uu 21 []), []⟩) .n)) ⟨ol 81 :: ol 81 :: uu 3 (oi :: uu 21 []), []⟩) ⟨uu 27 [], []⟩)) .n))))
noncomputable def fi124 : FI := mkFI Try.f124 2 [.ag [.s, .i .i64, .s, .sl 81, .sl 9], .ag [.s, .i .i64, .s, .sl 81, .sl 9]] [(false, [.ct .b])] (fun _ => (.s (.r [0, 1, 0] none) .n))
noncomputable def fi13 : FI := { mkFI Try.f13 0 [] [] (fun _ => .n) with mark := some (mkI mT mTab 13 83) }
noncomputable def fi14 : FI := { mkFI Try.f14 0 [] [] (fun _ => .n) with mark := some (mkI mT mTab 14 9) }
noncomputable def fi41 : FI := { mkFI Try.f41 0 [] [] (fun _ => .n) with mark := some (mkI mT mTab 41 81) }
noncomputable def fi42 : FI := { mkFI Try.f42 0 [] [] (fun _ => .n) with mark := some (mkI mT mTab 42 122) }
noncomputable def fi55 : FI := { mkFI Try.f55 0 [] [] (fun _ => .n) with mark := some (mkI mT mTab 55 127) }
noncomputable def fi56 : FI := { mkFI Try.f56 0 [] [] (fun _ => .n) with mark := some (mkI mT mTab 56 129) }
noncomputable def fi57 : FI := { mkFI Try.f57 0 [] [] (fun _ => .n) with mark := some (mkI mT mTab 57 131) }
noncomputable def fi84 : FI := { mkFI Try.f84 0 [] [] (fun _ => .n) with mark := some (mkI mT mTab 84 161) }
noncomputable def fi33 : FI := { mkFI Try.f33 0 [] [] (fun _ => .n) with mark := some (mkAI mT mTab 11 [((4, 9), 14), ((5, 127), 55), ((6, 83), 13), ((7, 129), 56), ((8, 131), 57), ((10, 122), 42)]) }
noncomputable def fnL : List (Nat × FI) := [(6, fi6), (28, fi28), (30, fi30), (29, fi29), (31, fi31), (32, fi32), (34, fi34), (44, fi44), (63, fi63), (7, fi7), (64, fi64), (65, fi65), (66, fi66), (48, fi48), (68, fi68), (9, fi9), (69, fi69), (70, fi70), (71, fi71), (67, fi67), (72, fi72), (11, fi11), (73, fi73), (12, fi12), (74, fi74), (75, fi75), (76, fi76), (15, fi15), (58, fi58), (59, fi59), (60, fi60), (61, fi61), (62, fi62), (90, fi90), (35, fi35), (91, fi91), (92, fi92), (93, fi93), (98, fi98), (37, fi37), (99, fi99), (100, fi100), (101, fi101), (94, fi94), (95, fi95), (96, fi96), (97, fi97), (87, fi87), (102, fi102), (103, fi103), (104, fi104), (105, fi105), (106, fi106), (107, fi107), (39, fi39), (108, fi108), (109, fi109), (110, fi110), (40, fi40), (88, fi88), (89, fi89), (77, fi77), (78, fi78), (115, fi115), (79, fi79), (80, fi80), (118, fi118), (116, fi116), (117, fi117), (119, fi119), (120, fi120), (82, fi82), (83, fi83), (121, fi121), (111, fi111), (122, fi122), (112, fi112), (123, fi123), (114, fi114), (124, fi124), (13, fi13), (14, fi14), (41, fi41), (42, fi42), (55, fi55), (56, fi56), (57, fi57), (84, fi84), (33, fi33)]
noncomputable def cfg : Cfg := ⟨fun t => look t tyL, fun f => look f fnL⟩
theorem fns : ∀ x ∈ fnL, FnOk Try.prog Glob.none cfg.ty x.1 x.2 :=
  all_cons (mkFI_ok Try.func6 (by kernel_rfl)) <|
  all_cons (mkFI_ok Try.func28 (by kernel_rfl)) <|
  all_cons (mkFI_ok Try.func30 (by kernel_rfl)) <|
  all_cons (mkFI_ok Try.func29 (by kernel_rfl)) <|
  all_cons (mkFI_ok Try.func31 (by kernel_rfl)) <|
  all_cons (mkFI_ok Try.func32 (by kernel_rfl)) <|
  all_cons (mkFI_ok Try.func34 (by kernel_rfl)) <|
  all_cons (mkFI_ok Try.func44 (by kernel_rfl)) <|
  all_cons (mkFI_ok Try.func63 (by kernel_rfl)) <|
  all_cons (mkFI_ok Try.func7 (by kernel_rfl)) <|
  all_cons (mkFI_ok Try.func64 (by kernel_rfl)) <|
  all_cons (mkFI_ok Try.func65 (by kernel_rfl)) <|
  all_cons (mkFI_ok Try.func66 (by kernel_rfl)) <|
  all_cons (mkFI_ok Try.func48 (by kernel_rfl)) <|
  all_cons (mkFI_ok Try.func68 (by kernel_rfl)) <|
  all_cons (mkFI_ok Try.func9 (by kernel_rfl)) <|
  all_cons (mkFI_ok Try.func69 (by kernel_rfl)) <|
  all_cons (mkFI_ok Try.func70 (by kernel_rfl)) <|
  all_cons (mkFI_ok Try.func71 (by kernel_rfl)) <|
  all_cons (mkFI_ok Try.func67 (by kernel_rfl)) <|
  all_cons (mkFI_ok Try.func72 (by kernel_rfl)) <|
  all_cons (mkFI_ok Try.func11 (by kernel_rfl)) <|
  all_cons (mkFI_ok Try.func73 (by kernel_rfl)) <|
  all_cons (mkFI_ok Try.func12 (by kernel_rfl)) <|
  all_cons (mkFI_ok Try.func74 (by kernel_rfl)) <|
  all_cons (mkFI_ok Try.func75 (by kernel_rfl)) <|
  all_cons (mkFI_ok Try.func76 (by kernel_rfl)) <|
  all_cons (mkFI_ok Try.func15 (by kernel_rfl)) <|
  all_cons (mkFI_ok Try.func58 (by kernel_rfl)) <|
  all_cons (mkFI_ok Try.func59 (by kernel_rfl)) <|
  all_cons (mkFI_ok Try.func60 (by kernel_rfl)) <|
  all_cons (mkFI_ok Try.func61 (by kernel_rfl)) <|
  all_cons (mkFI_ok Try.func62 (by kernel_rfl)) <|
  all_cons (mkFI_ok Try.func90 (by kernel_rfl)) <|
  all_cons (mkFI_ok Try.func35 (by kernel_rfl)) <|
  all_cons (mkFI_ok Try.func91 (by kernel_rfl)) <|
  all_cons (mkFI_ok Try.func92 (by kernel_rfl)) <|
  all_cons (mkFI_ok Try.func93 (by kernel_rfl)) <|
  all_cons (mkFI_ok Try.func98 (by kernel_rfl)) <|
  all_cons (mkFI_ok Try.func37 (by kernel_rfl)) <|
  all_cons (mkFI_ok Try.func99 (by kernel_rfl)) <|
  all_cons (mkFI_ok Try.func100 (by kernel_rfl)) <|
  all_cons (mkFI_ok Try.func101 (by kernel_rfl)) <|
  all_cons (mkFI_ok Try.func94 (by kernel_rfl)) <|
  all_cons (mkFI_ok Try.func95 (by kernel_rfl)) <|
  all_cons (mkFI_ok Try.func96 (by kernel_rfl)) <|
  all_cons (mkFI_ok Try.func97 (by kernel_rfl)) <|
  all_cons (prim_clone (e := 9) (ac := ac87) (ar := ar87) (tyB_ok tys).1 (by kernel_rfl) Try.func87 (by kernel_rfl) (by kernel_rfl) rfl rfl ⟨_, _, _, _, _, _, _, rfl, ⟨rfl, rfl, rfl⟩, ⟨rfl, rfl, rfl⟩, ⟨rfl, rfl, rfl⟩, Try.underlying24⟩ rfl rfl (by decide +kernel) cl87) <|
  all_cons (mkFI_ok Try.func102 (by kernel_rfl)) <|
  all_cons (mkFI_ok Try.func103 (by kernel_rfl)) <|
  all_cons (mkFI_ok Try.func104 (by kernel_rfl)) <|
  all_cons (prim_clone (e := 131) (ac := ac105) (ar := ar105) (tyB_ok tys).1 (by kernel_rfl) Try.func105 (by kernel_rfl) (by kernel_rfl) rfl rfl ⟨_, _, _, _, _, _, _, rfl, ⟨rfl, rfl, rfl⟩, ⟨rfl, rfl, rfl⟩, ⟨rfl, rfl, rfl⟩, Try.underlying60⟩ rfl rfl (by decide +kernel) cl105) <|
  all_cons (mkFI_ok Try.func106 (by kernel_rfl)) <|
  all_cons (mkFI_ok Try.func107 (by kernel_rfl)) <|
  all_cons (mkFI_ok Try.func39 (by kernel_rfl)) <|
  all_cons (mkFI_ok Try.func108 (by kernel_rfl)) <|
  all_cons (mkFI_ok Try.func109 (by kernel_rfl)) <|
  all_cons (mkFI_ok Try.func110 (by kernel_rfl)) <|
  all_cons (mkFI_ok Try.func40 (by kernel_rfl)) <|
  all_cons (mkFI_ok Try.func88 (by kernel_rfl)) <|
  all_cons (mkFI_ok Try.func89 (by kernel_rfl)) <|
  all_cons (mkFI_ok Try.func77 (by kernel_rfl)) <|
  all_cons (mkFI_ok Try.func78 (by kernel_rfl)) <|
  all_cons (mkFI_ok Try.func115 (by kernel_rfl)) <|
  all_cons (mkFI_ok Try.func79 (by kernel_rfl)) <|
  all_cons (mkFI_ok Try.func80 (by kernel_rfl)) <|
  all_cons (mkFI_ok Try.func118 (by kernel_rfl)) <|
  all_cons (mkFI_ok Try.func116 (by kernel_rfl)) <|
  all_cons (mkFI_ok Try.func117 (by kernel_rfl)) <|
  all_cons (mkFI_ok Try.func119 (by kernel_rfl)) <|
  all_cons (mkFI_ok Try.func120 (by kernel_rfl)) <|
  all_cons (mkFI_ok Try.func82 (by kernel_rfl)) <|
  all_cons (mkFI_ok Try.func83 (by kernel_rfl)) <|
  all_cons (mkFI_ok Try.func121 (by kernel_rfl)) <|
  all_cons (mkFI_ok Try.func111 (by kernel_rfl)) <|
  all_cons (mkFI_ok Try.func122 (by kernel_rfl)) <|
  all_cons (mkFI_ok Try.func112 (by kernel_rfl)) <|
  all_cons (mkFI_ok Try.func123 (by kernel_rfl)) <|
  all_cons (mkFI_ok Try.func114 (by kernel_rfl)) <|
  all_cons (mkFI_ok Try.func124 (by kernel_rfl)) <|
  all_cons (mark_fn (mkFI_ok Try.func13 (by kernel_rfl)) rfl (mkI_ok mtabok (f := 13) (e := 83) (by kernel_rfl))) <|
  all_cons (mark_fn (mkFI_ok Try.func14 (by kernel_rfl)) rfl (mkI_ok mtabok (f := 14) (e := 9) (by kernel_rfl))) <|
  all_cons (mark_fn (mkFI_ok Try.func41 (by kernel_rfl)) rfl (mkI_ok mtabok (f := 41) (e := 81) (by kernel_rfl))) <|
  all_cons (mark_fn (mkFI_ok Try.func42 (by kernel_rfl)) rfl (mkI_ok mtabok (f := 42) (e := 122) (by kernel_rfl))) <|
  all_cons (mark_fn (mkFI_ok Try.func55 (by kernel_rfl)) rfl (mkI_ok mtabok (f := 55) (e := 127) (by kernel_rfl))) <|
  all_cons (mark_fn (mkFI_ok Try.func56 (by kernel_rfl)) rfl (mkI_ok mtabok (f := 56) (e := 129) (by kernel_rfl))) <|
  all_cons (mark_fn (mkFI_ok Try.func57 (by kernel_rfl)) rfl (mkI_ok mtabok (f := 57) (e := 131) (by kernel_rfl))) <|
  all_cons (mark_fn (mkFI_ok Try.func84 (by kernel_rfl)) rfl (mkI_ok mtabok (f := 84) (e := 161) (by kernel_rfl))) <|
  all_cons (mark_fn (mkFI_ok Try.func33 (by kernel_rfl)) rfl (mkAI_ok mtabok Try.func33 (by kernel_rfl))) <| all_nil
noncomputable def r_laws_FnExactAdded (a : List DC) : Out := Run cfg 6 ⟨.agg [.i .i64, .b, .s, .s, .sl 9, .sl 134, .sl 76, .sl 137, .sl 139, .b, .sl 143] :: .agg [.i .i64, .b, .s, .s, .sl 9, .sl 134, .sl 76, .sl 137, .sl 139, .b, .sl 143] :: [], []⟩ a
noncomputable def r_laws_szDef (a : List DC) : Out := Run cfg 28 ⟨.agg [.i .i64, .b, .s, .s, .sl 9, .sl 134, .sl 76, .sl 137, .sl 139, .b, .sl 143] :: oi :: [], []⟩ a
noncomputable def r_laws_toDef (a : List DC) : Out := Run cfg 30 ⟨.agg [.i .i64, .b, .s, .s, .sl 9, .sl 134, .sl 76, .sl 137, .sl 139, .b, .sl 143] :: [], []⟩ a
noncomputable def r_spec_Added (a : List DC) : Out := Run cfg 29 ⟨.agg [.i .i64, .b, .s, .s, .sl 9, .sl 127, .sl 83, .sl 129, .sl 131, .b, .sl 122] :: .agg [.i .i64, .b, .s, .s, .sl 9, .sl 127, .sl 83, .sl 129, .sl 131, .b, .sl 122] :: [], []⟩ a
noncomputable def r_impl_Added (a : List DC) : Out := Run cfg 31 ⟨.agg [.i .i64, .b, .s, .s, .sl 9, .sl 127, .sl 83, .sl 129, .sl 131, .b, .sl 122] :: .agg [.i .i64, .b, .s, .s, .sl 9, .sl 127, .sl 83, .sl 129, .sl 131, .b, .sl 122] :: [], []⟩ a
noncomputable def r_laws_eqDef (a : List DC) : Out := Run cfg 32 ⟨.agg [.i .i64, .b, .s, .s, .sl 9, .sl 127, .sl 83, .sl 129, .sl 131, .b, .sl 122] :: .agg [.i .i64, .b, .s, .s, .sl 9, .sl 127, .sl 83, .sl 129, .sl 131, .b, .sl 122] :: [], []⟩ a
noncomputable def r_laws_heldDef (a : List DC) : Out := Run cfg 34 ⟨.agg [.i .i64, .b, .s, .s, .sl 9, .sl 127, .sl 83, .sl 129, .sl 131, .b, .sl 122] :: oi :: [], []⟩ a
noncomputable def r_laws_szStringS (a : List DC) : Out := Run cfg 44 ⟨ol 9 :: oi :: [], []⟩ a
noncomputable def r_laws_szFieldDefS (a : List DC) : Out := Run cfg 63 ⟨ol 134 :: oi :: [], []⟩ a
noncomputable def r_laws_szInDefS (a : List DC) : Out := Run cfg 7 ⟨ol 76 :: oi :: [], []⟩ a
noncomputable def r_laws_szEnumDefS (a : List DC) : Out := Run cfg 64 ⟨ol 137 :: oi :: [], []⟩ a
noncomputable def r_laws_szRootS (a : List DC) : Out := Run cfg 65 ⟨ol 139 :: oi :: [], []⟩ a
noncomputable def r_laws_szDirS (a : List DC) : Out := Run cfg 66 ⟨ol 143 :: oi :: [], []⟩ a
noncomputable def r_laws_toStringS (a : List DC) : Out := Run cfg 48 ⟨ol 9 :: [], []⟩ a
noncomputable def r_laws_toFieldDefS (a : List DC) : Out := Run cfg 68 ⟨ol 134 :: [], []⟩ a
noncomputable def r_laws_toInDefS (a : List DC) : Out := Run cfg 9 ⟨ol 76 :: [], []⟩ a
noncomputable def r_laws_toEnumDefS (a : List DC) : Out := Run cfg 69 ⟨ol 137 :: [], []⟩ a
noncomputable def r_laws_toRootS (a : List DC) : Out := Run cfg 70 ⟨ol 139 :: [], []⟩ a
noncomputable def r_laws_toDirS (a : List DC) : Out := Run cfg 71 ⟨ol 143 :: [], []⟩ a
noncomputable def r_spec_l13Copy (a : List DC) : Out := Run cfg 67 ⟨.agg [.i .i64, .b, .s, .s, .sl 9, .sl 127, .sl 83, .sl 129, .sl 131, .b, .sl 122] :: [], []⟩ a
noncomputable def r_impl_cloneDef (a : List DC) : Out := Run cfg 72 ⟨.agg [.i .i64, .b, .s, .s, .sl 9, .sl 127, .sl 83, .sl 129, .sl 131, .b, .sl 122] :: [], []⟩ a
noncomputable def r_laws_eqStringS (a : List DC) : Out := Run cfg 11 ⟨ol 9 :: ol 9 :: [], []⟩ a
noncomputable def r_laws_eqFieldDefS (a : List DC) : Out := Run cfg 73 ⟨ol 127 :: ol 127 :: [], []⟩ a
noncomputable def r_laws_eqInDefS (a : List DC) : Out := Run cfg 12 ⟨ol 83 :: ol 83 :: [], []⟩ a
noncomputable def r_laws_eqEnumDefS (a : List DC) : Out := Run cfg 74 ⟨ol 129 :: ol 129 :: [], []⟩ a
noncomputable def r_laws_eqRootS (a : List DC) : Out := Run cfg 75 ⟨ol 131 :: ol 131 :: [], []⟩ a
noncomputable def r_laws_eqDirS (a : List DC) : Out := Run cfg 76 ⟨ol 122 :: ol 122 :: [], []⟩ a
noncomputable def r_laws_heldStringS (a : List DC) : Out := Run cfg 15 ⟨ol 9 :: oi :: [], []⟩ a
noncomputable def r_laws_heldFieldDefS (a : List DC) : Out := Run cfg 58 ⟨ol 127 :: oi :: [], []⟩ a
noncomputable def r_laws_heldInDefS (a : List DC) : Out := Run cfg 59 ⟨ol 83 :: oi :: [], []⟩ a
noncomputable def r_laws_heldEnumDefS (a : List DC) : Out := Run cfg 60 ⟨ol 129 :: oi :: [], []⟩ a
noncomputable def r_laws_heldRootS (a : List DC) : Out := Run cfg 61 ⟨ol 131 :: oi :: [], []⟩ a
noncomputable def r_laws_heldDirS (a : List DC) : Out := Run cfg 62 ⟨ol 122 :: oi :: [], []⟩ a
noncomputable def r_laws_szFieldDef (a : List DC) : Out := Run cfg 90 ⟨.agg [.s, .s, .sl 76, .s, .s, .sl 143] :: oi :: [], []⟩ a
noncomputable def r_laws_szInDef (a : List DC) : Out := Run cfg 35 ⟨.agg [.s, .s, .s, .s, .b, .i .i64, .s, .sl 74, .sl 9, .sl 143] :: oi :: [], []⟩ a
noncomputable def r_laws_szEnumDef (a : List DC) : Out := Run cfg 91 ⟨.agg [.s, .s, .sl 143] :: oi :: [], []⟩ a
noncomputable def r_laws_szRoot (a : List DC) : Out := Run cfg 92 ⟨.agg [.i .i64, .s] :: oi :: [], []⟩ a
noncomputable def r_laws_szDir (a : List DC) : Out := Run cfg 93 ⟨.agg [.s, .sl 169] :: oi :: [], []⟩ a
noncomputable def r_laws_toFieldDef (a : List DC) : Out := Run cfg 98 ⟨.agg [.s, .s, .sl 76, .s, .s, .sl 143] :: [], []⟩ a
noncomputable def r_laws_toInDef (a : List DC) : Out := Run cfg 37 ⟨.agg [.s, .s, .s, .s, .b, .i .i64, .s, .sl 74, .sl 9, .sl 143] :: [], []⟩ a
noncomputable def r_laws_toEnumDef (a : List DC) : Out := Run cfg 99 ⟨.agg [.s, .s, .sl 143] :: [], []⟩ a
noncomputable def r_laws_toRoot (a : List DC) : Out := Run cfg 100 ⟨.agg [.i .i64, .s] :: [], []⟩ a
noncomputable def r_laws_toDir (a : List DC) : Out := Run cfg 101 ⟨.agg [.s, .sl 169] :: [], []⟩ a
noncomputable def r_spec_l13CopyFields (a : List DC) : Out := Run cfg 94 ⟨ol 127 :: [], []⟩ a
noncomputable def r_spec_l13CopyIns (a : List DC) : Out := Run cfg 95 ⟨ol 83 :: [], []⟩ a
noncomputable def r_spec_l13CopyValues (a : List DC) : Out := Run cfg 96 ⟨ol 129 :: [], []⟩ a
noncomputable def r_spec_l10Dirs (a : List DC) : Out := Run cfg 97 ⟨ol 122 :: [], []⟩ a
noncomputable def r_slices_Clone_string (a : List DC) : Out := Run cfg 87 h_slices_Clone_string a
noncomputable def r_impl_cloneFields (a : List DC) : Out := Run cfg 102 ⟨ol 127 :: [], []⟩ a
noncomputable def r_impl_cloneIns (a : List DC) : Out := Run cfg 103 ⟨ol 83 :: [], []⟩ a
noncomputable def r_impl_cloneEnums (a : List DC) : Out := Run cfg 104 ⟨ol 129 :: [], []⟩ a
noncomputable def r_slices_Clone_impl_Root (a : List DC) : Out := Run cfg 105 h_slices_Clone_impl_Root a
noncomputable def r_impl_cloneDirs (a : List DC) : Out := Run cfg 106 ⟨ol 122 :: [], []⟩ a
noncomputable def r_laws_eqFieldDef (a : List DC) : Out := Run cfg 107 ⟨.agg [.s, .s, .sl 83, .s, .s, .sl 122] :: .agg [.s, .s, .sl 83, .s, .s, .sl 122] :: [], []⟩ a
noncomputable def r_laws_eqInDef (a : List DC) : Out := Run cfg 39 ⟨.agg [.s, .s, .s, .s, .b, .i .i64, .s, .sl 81, .sl 9, .sl 122] :: .agg [.s, .s, .s, .s, .b, .i .i64, .s, .sl 81, .sl 9, .sl 122] :: [], []⟩ a
noncomputable def r_laws_eqEnumDef (a : List DC) : Out := Run cfg 108 ⟨.agg [.s, .s, .sl 122] :: .agg [.s, .s, .sl 122] :: [], []⟩ a
noncomputable def r_laws_eqRoot (a : List DC) : Out := Run cfg 109 ⟨.agg [.i .i64, .s] :: .agg [.i .i64, .s] :: [], []⟩ a
noncomputable def r_laws_eqDir (a : List DC) : Out := Run cfg 110 ⟨.agg [.s, .sl 161] :: .agg [.s, .sl 161] :: [], []⟩ a
noncomputable def r_laws_markText (a : List DC) : Out := Run cfg 40 ⟨oi :: [], []⟩ a
noncomputable def r_laws_heldValueS (a : List DC) : Out := Run cfg 88 ⟨ol 81 :: oi :: [], []⟩ a
noncomputable def r_laws_heldArgS (a : List DC) : Out := Run cfg 89 ⟨ol 161 :: oi :: [], []⟩ a
noncomputable def r_laws_szType (a : List DC) : Out := Run cfg 77 ⟨.agg [.s, .s] :: oi :: [], []⟩ a
noncomputable def r_laws_szValue (a : List DC) : Out := Run cfg 78 ⟨.agg [.i .i64, .s, .sl 74, .sl 9] :: oi :: [], []⟩ a
noncomputable def r_laws_szArgS (a : List DC) : Out := Run cfg 115 ⟨ol 169 :: oi :: [], []⟩ a
noncomputable def r_laws_toType (a : List DC) : Out := Run cfg 79 ⟨.agg [.s, .s] :: [], []⟩ a
noncomputable def r_laws_toValue (a : List DC) : Out := Run cfg 80 ⟨.agg [.i .i64, .s, .sl 74, .sl 9] :: [], []⟩ a
noncomputable def r_laws_toArgS (a : List DC) : Out := Run cfg 118 ⟨ol 169 :: [], []⟩ a
noncomputable def r_spec_l07Copy (a : List DC) : Out := Run cfg 116 ⟨.agg [.i .i64, .s, .sl 81, .sl 9] :: [], []⟩ a
noncomputable def r_spec_l10Args (a : List DC) : Out := Run cfg 117 ⟨ol 161 :: [], []⟩ a
noncomputable def r_impl_cloneValue (a : List DC) : Out := Run cfg 119 ⟨.agg [.i .i64, .s, .sl 81, .sl 9] :: [], []⟩ a
noncomputable def r_impl_cloneArgs (a : List DC) : Out := Run cfg 120 ⟨ol 161 :: [], []⟩ a
noncomputable def r_laws_eqType (a : List DC) : Out := Run cfg 82 ⟨.agg [.s, .s] :: .agg [.s, .s] :: [], []⟩ a
noncomputable def r_laws_eqValue (a : List DC) : Out := Run cfg 83 ⟨.agg [.i .i64, .s, .sl 81, .sl 9] :: .agg [.i .i64, .s, .sl 81, .sl 9] :: [], []⟩ a
noncomputable def r_laws_eqArgS (a : List DC) : Out := Run cfg 121 ⟨ol 161 :: ol 161 :: [], []⟩ a
noncomputable def r_laws_szValueS (a : List DC) : Out := Run cfg 111 ⟨ol 74 :: oi :: [], []⟩ a
noncomputable def r_laws_szArg (a : List DC) : Out := Run cfg 122 ⟨.agg [.s, .i .i64, .s, .sl 74, .sl 9] :: oi :: [], []⟩ a
noncomputable def r_laws_toValueS (a : List DC) : Out := Run cfg 112 ⟨ol 74 :: [], []⟩ a
noncomputable def r_laws_toArg (a : List DC) : Out := Run cfg 123 ⟨.agg [.s, .i .i64, .s, .sl 74, .sl 9] :: [], []⟩ a
noncomputable def r_laws_eqValueS (a : List DC) : Out := Run cfg 114 ⟨ol 81 :: ol 81 :: [], []⟩ a
noncomputable def r_laws_eqArg (a : List DC) : Out := Run cfg 124 ⟨.agg [.s, .i .i64, .s, .sl 81, .sl 9] :: .agg [.s, .i .i64, .s, .sl 81, .sl 9] :: [], []⟩ a
noncomputable def E_laws_FnExactAdded (a : List DC) : Out :=
 (r_laws_szDef [.i ((a.getD 0 d0).ii), .b ((a.getD 1 d0).bb), .s ((a.getD 2 d0).ss), .s ((a.getD 3 d0).ss), .sl ((a.getD 4 d0).ll), .sl ((a.getD 5 d0).ll), .sl ((a.getD 6 d0).ll), .sl ((a.getD 7 d0).ll), .sl ((a.getD 8 d0).ll), .b ((a.getD 9 d0).bb), .sl ((a.getD 10 d0).ll), .i (1048576 : Int)]).bindR fun r1 =>
 if (decide ((r1.getD 0 d0).ii < (0 : Int))) = true then
 .ret [.b true]
 else
 (r_laws_szDef [.i ((a.getD 11 d0).ii), .b ((a.getD 12 d0).bb), .s ((a.getD 13 d0).ss), .s ((a.getD 14 d0).ss), .sl ((a.getD 15 d0).ll), .sl ((a.getD 16 d0).ll), .sl ((a.getD 17 d0).ll), .sl ((a.getD 18 d0).ll), .sl ((a.getD 19 d0).ll), .b ((a.getD 20 d0).bb), .sl ((a.getD 21 d0).ll), .i ((r1.getD 0 d0).ii)]).bindR fun r2 =>
 if (decide ((r2.getD 0 d0).ii < (0 : Int))) = true then
 .ret [.b true]
 else
 (r_laws_toDef [.i ((a.getD 0 d0).ii), .b ((a.getD 1 d0).bb), .s ((a.getD 2 d0).ss), .s ((a.getD 3 d0).ss), .sl ((a.getD 4 d0).ll), .sl ((a.getD 5 d0).ll), .sl ((a.getD 6 d0).ll), .sl ((a.getD 7 d0).ll), .sl ((a.getD 8 d0).ll), .b ((a.getD 9 d0).bb), .sl ((a.getD 10 d0).ll)]).bindR fun r3 =>
 (r_laws_toDef [.i ((a.getD 11 d0).ii), .b ((a.getD 12 d0).bb), .s ((a.getD 13 d0).ss), .s ((a.getD 14 d0).ss), .sl ((a.getD 15 d0).ll), .sl ((a.getD 16 d0).ll), .sl ((a.getD 17 d0).ll), .sl ((a.getD 18 d0).ll), .sl ((a.getD 19 d0).ll), .b ((a.getD 20 d0).bb), .sl ((a.getD 21 d0).ll)]).bindR fun r4 =>
 (r_spec_Added [.i ((r3.getD 0 d0).ii), .b ((r3.getD 1 d0).bb), .s ((r3.getD 2 d0).ss), .s ((r3.getD 3 d0).ss), .sl ((r3.getD 4 d0).ll), .sl ((r3.getD 5 d0).ll), .sl ((r3.getD 6 d0).ll), .sl ((r3.getD 7 d0).ll), .sl ((r3.getD 8 d0).ll), .b ((r3.getD 9 d0).bb), .sl ((r3.getD 10 d0).ll), .i ((r4.getD 0 d0).ii), .b ((r4.getD 1 d0).bb), .s ((r4.getD 2 d0).ss), .s ((r4.getD 3 d0).ss), .sl ((r4.getD 4 d0).ll), .sl ((r4.getD 5 d0).ll), .sl ((r4.getD 6 d0).ll), .sl ((r4.getD 7 d0).ll), .sl ((r4.getD 8 d0).ll), .b ((r4.getD 9 d0).bb), .sl ((r4.getD 10 d0).ll)]).bindR fun r5 =>
 (r_laws_toDef [.i ((a.getD 0 d0).ii), .b ((a.getD 1 d0).bb), .s ((a.getD 2 d0).ss), .s ((a.getD 3 d0).ss), .sl ((a.getD 4 d0).ll), .sl ((a.getD 5 d0).ll), .sl ((a.getD 6 d0).ll), .sl ((a.getD 7 d0).ll), .sl ((a.getD 8 d0).ll), .b ((a.getD 9 d0).bb), .sl ((a.getD 10 d0).ll)]).bindR fun r6 =>
 (r_laws_toDef [.i ((a.getD 11 d0).ii), .b ((a.getD 12 d0).bb), .s ((a.getD 13 d0).ss), .s ((a.getD 14 d0).ss), .sl ((a.getD 15 d0).ll), .sl ((a.getD 16 d0).ll), .sl ((a.getD 17 d0).ll), .sl ((a.getD 18 d0).ll), .sl ((a.getD 19 d0).ll), .b ((a.getD 20 d0).bb), .sl ((a.getD 21 d0).ll)]).bindR fun r7 =>
 (r_impl_Added [.i ((r6.getD 0 d0).ii), .b ((r6.getD 1 d0).bb), .s ((r6.getD 2 d0).ss), .s ((r6.getD 3 d0).ss), .sl ((r6.getD 4 d0).ll), .sl ((r6.getD 5 d0).ll), .sl ((r6.getD 6 d0).ll), .sl ((r6.getD 7 d0).ll), .sl ((r6.getD 8 d0).ll), .b ((r6.getD 9 d0).bb), .sl ((r6.getD 10 d0).ll), .i ((r7.getD 0 d0).ii), .b ((r7.getD 1 d0).bb), .s ((r7.getD 2 d0).ss), .s ((r7.getD 3 d0).ss), .sl ((r7.getD 4 d0).ll), .sl ((r7.getD 5 d0).ll), .sl ((r7.getD 6 d0).ll), .sl ((r7.getD 7 d0).ll), .sl ((r7.getD 8 d0).ll), .b ((r7.getD 9 d0).bb), .sl ((r7.getD 10 d0).ll)]).bindR fun r8 =>
 (r_laws_eqDef [.i ((r8.getD 0 d0).ii), .b ((r8.getD 1 d0).bb), .s ((r8.getD 2 d0).ss), .s ((r8.getD 3 d0).ss), .sl ((r8.getD 4 d0).ll), .sl ((r8.getD 5 d0).ll), .sl ((r8.getD 6 d0).ll), .sl ((r8.getD 7 d0).ll), .sl ((r8.getD 8 d0).ll), .b ((r8.getD 9 d0).bb), .sl ((r8.getD 10 d0).ll), .i ((r5.getD 0 d0).ii), .b ((r5.getD 1 d0).bb), .s ((r5.getD 2 d0).ss), .s ((r5.getD 3 d0).ss), .sl ((r5.getD 4 d0).ll), .sl ((r5.getD 5 d0).ll), .sl ((r5.getD 6 d0).ll), .sl ((r5.getD 7 d0).ll), .sl ((r5.getD 8 d0).ll), .b ((r5.getD 9 d0).bb), .sl ((r5.getD 10 d0).ll)]).bindR fun r9 =>
 if (!((r9.getD 0 d0).bb)) = true then
 .ret [.b false]
 else
 (r_laws_toDef [.i ((a.getD 0 d0).ii), .b ((a.getD 1 d0).bb), .s ((a.getD 2 d0).ss), .s ((a.getD 3 d0).ss), .sl ((a.getD 4 d0).ll), .sl ((a.getD 5 d0).ll), .sl ((a.getD 6 d0).ll), .sl ((a.getD 7 d0).ll), .sl ((a.getD 8 d0).ll), .b ((a.getD 9 d0).bb), .sl ((a.getD 10 d0).ll)]).bindR fun r10 =>
 (r_laws_eqDef [.i ((r6.getD 0 d0).ii), .b ((r6.getD 1 d0).bb), .s ((r6.getD 2 d0).ss), .s ((r6.getD 3 d0).ss), .sl ((r6.getD 4 d0).ll), .sl ((r6.getD 5 d0).ll), .sl ((r6.getD 6 d0).ll), .sl ((r6.getD 7 d0).ll), .sl ((r6.getD 8 d0).ll), .b ((r6.getD 9 d0).bb), .sl ((r6.getD 10 d0).ll), .i ((r10.getD 0 d0).ii), .b ((r10.getD 1 d0).bb), .s ((r10.getD 2 d0).ss), .s ((r10.getD 3 d0).ss), .sl ((r10.getD 4 d0).ll), .sl ((r10.getD 5 d0).ll), .sl ((r10.getD 6 d0).ll), .sl ((r10.getD 7 d0).ll), .sl ((r10.getD 8 d0).ll), .b ((r10.getD 9 d0).bb), .sl ((r10.getD 10 d0).ll)]).bindR fun r11 =>
 if (!((r11.getD 0 d0).bb)) = true then
 .ret [.b false]
 else
 (r_laws_toDef [.i ((a.getD 11 d0).ii), .b ((a.getD 12 d0).bb), .s ((a.getD 13 d0).ss), .s ((a.getD 14 d0).ss), .sl ((a.getD 15 d0).ll), .sl ((a.getD 16 d0).ll), .sl ((a.getD 17 d0).ll), .sl ((a.getD 18 d0).ll), .sl ((a.getD 19 d0).ll), .b ((a.getD 20 d0).bb), .sl ((a.getD 21 d0).ll)]).bindR fun r12 =>
 (r_laws_eqDef [.i ((r7.getD 0 d0).ii), .b ((r7.getD 1 d0).bb), .s ((r7.getD 2 d0).ss), .s ((r7.getD 3 d0).ss), .sl ((r7.getD 4 d0).ll), .sl ((r7.getD 5 d0).ll), .sl ((r7.getD 6 d0).ll), .sl ((r7.getD 7 d0).ll), .sl ((r7.getD 8 d0).ll), .b ((r7.getD 9 d0).bb), .sl ((r7.getD 10 d0).ll), .i ((r12.getD 0 d0).ii), .b ((r12.getD 1 d0).bb), .s ((r12.getD 2 d0).ss), .s ((r12.getD 3 d0).ss), .sl ((r12.getD 4 d0).ll), .sl ((r12.getD 5 d0).ll), .sl ((r12.getD 6 d0).ll), .sl ((r12.getD 7 d0).ll), .sl ((r12.getD 8 d0).ll), .b ((r12.getD 9 d0).bb), .sl ((r12.getD 10 d0).ll)]).bindR fun r13 =>
 if (!((r13.getD 0 d0).bb)) = true then
 .ret [.b false]
 else
 markM Out.fail (mkAV mT mTab [14, 55, 13, 56, 57, 42] [(r6.getD 4 d0).ll, (r6.getD 5 d0).ll, (r6.getD 6 d0).ll, (r6.getD 7 d0).ll, (r6.getD 8 d0).ll, (r6.getD 10 d0).ll] (1 : Int)) 6 fun l14 k15 =>
 markM Out.fail (mkAV mT mTab [14, 55, 13, 56, 57, 42] [(r7.getD 4 d0).ll, (r7.getD 5 d0).ll, (r7.getD 6 d0).ll, (r7.getD 7 d0).ll, (r7.getD 8 d0).ll, (r7.getD 10 d0).ll] k15) 6 fun l16 k17 =>
 Out.andThen (if (decide (k17 < (0 : Int))) = true then
 .norm [.b true, .i ((a.getD 0 d0).ii), .b ((a.getD 1 d0).bb), .s ((a.getD 2 d0).ss), .s ((a.getD 3 d0).ss), .sl ((a.getD 4 d0).ll), .sl ((a.getD 5 d0).ll), .sl ((a.getD 6 d0).ll), .sl ((a.getD 7 d0).ll), .sl ((a.getD 8 d0).ll), .b ((a.getD 9 d0).bb), .sl ((a.getD 10 d0).ll), .i ((a.getD 11 d0).ii), .b ((a.getD 12 d0).bb), .s ((a.getD 13 d0).ss), .s ((a.getD 14 d0).ss), .sl ((a.getD 15 d0).ll), .sl ((a.getD 16 d0).ll), .sl ((a.getD 17 d0).ll), .sl ((a.getD 18 d0).ll), .sl ((a.getD 19 d0).ll), .b ((a.getD 20 d0).bb), .sl ((a.getD 21 d0).ll), .i ((r5.getD 0 d0).ii), .b ((r5.getD 1 d0).bb), .s ((r5.getD 2 d0).ss), .s ((r5.getD 3 d0).ss), .sl ((r5.getD 4 d0).ll), .sl ((r5.getD 5 d0).ll), .sl ((r5.getD 6 d0).ll), .sl ((r5.getD 7 d0).ll), .sl ((r5.getD 8 d0).ll), .b ((r5.getD 9 d0).bb), .sl ((r5.getD 10 d0).ll), .i ((r8.getD 0 d0).ii), .b ((r8.getD 1 d0).bb), .s ((r8.getD 2 d0).ss), .s ((r8.getD 3 d0).ss), .sl ((r8.getD 4 d0).ll), .sl ((r8.getD 5 d0).ll), .sl ((r8.getD 6 d0).ll), .sl ((r8.getD 7 d0).ll), .sl ((r8.getD 8 d0).ll), .b ((r8.getD 9 d0).bb), .sl ((r8.getD 10 d0).ll)]
 else
 (r_laws_eqDef [.i ((r8.getD 0 d0).ii), .b ((r8.getD 1 d0).bb), .s ((r8.getD 2 d0).ss), .s ((r8.getD 3 d0).ss), .sl ((r8.getD 4 d0).ll), .sl ((r8.getD 5 d0).ll), .sl ((r8.getD 6 d0).ll), .sl ((r8.getD 7 d0).ll), .sl ((r8.getD 8 d0).ll), .b ((r8.getD 9 d0).bb), .sl ((r8.getD 10 d0).ll), .i ((r5.getD 0 d0).ii), .b ((r5.getD 1 d0).bb), .s ((r5.getD 2 d0).ss), .s ((r5.getD 3 d0).ss), .sl ((r5.getD 4 d0).ll), .sl ((r5.getD 5 d0).ll), .sl ((r5.getD 6 d0).ll), .sl ((r5.getD 7 d0).ll), .sl ((r5.getD 8 d0).ll), .b ((r5.getD 9 d0).bb), .sl ((r5.getD 10 d0).ll)]).bindR fun r18 =>
 .norm [.b (!((r18.getD 0 d0).bb)), .i ((a.getD 0 d0).ii), .b ((a.getD 1 d0).bb), .s ((a.getD 2 d0).ss), .s ((a.getD 3 d0).ss), .sl ((a.getD 4 d0).ll), .sl ((a.getD 5 d0).ll), .sl ((a.getD 6 d0).ll), .sl ((a.getD 7 d0).ll), .sl ((a.getD 8 d0).ll), .b ((a.getD 9 d0).bb), .sl ((a.getD 10 d0).ll), .i ((a.getD 11 d0).ii), .b ((a.getD 12 d0).bb), .s ((a.getD 13 d0).ss), .s ((a.getD 14 d0).ss), .sl ((a.getD 15 d0).ll), .sl ((a.getD 16 d0).ll), .sl ((a.getD 17 d0).ll), .sl ((a.getD 18 d0).ll), .sl ((a.getD 19 d0).ll), .b ((a.getD 20 d0).bb), .sl ((a.getD 21 d0).ll), .i ((r5.getD 0 d0).ii), .b ((r5.getD 1 d0).bb), .s ((r5.getD 2 d0).ss), .s ((r5.getD 3 d0).ss), .sl ((r5.getD 4 d0).ll), .sl ((r5.getD 5 d0).ll), .sl ((r5.getD 6 d0).ll), .sl ((r5.getD 7 d0).ll), .sl ((r5.getD 8 d0).ll), .b ((r5.getD 9 d0).bb), .sl ((r5.getD 10 d0).ll), .i ((r8.getD 0 d0).ii), .b ((r8.getD 1 d0).bb), .s ((r8.getD 2 d0).ss), .s ((r8.getD 3 d0).ss), .sl ((r8.getD 4 d0).ll), .sl ((r8.getD 5 d0).ll), .sl ((r8.getD 6 d0).ll), .sl ((r8.getD 7 d0).ll), .sl ((r8.getD 8 d0).ll), .b ((r8.getD 9 d0).bb), .sl ((r8.getD 10 d0).ll)]) fun v19 =>
 if (v19.getD 0 d0).bb = true then
 .ret [.b false]
 else
 markM Out.fail (mkAV mT mTab [14, 55, 13, 56, 57, 42] [(v19.getD 38 d0).ll, (v19.getD 39 d0).ll, (v19.getD 40 d0).ll, (v19.getD 41 d0).ll, (v19.getD 42 d0).ll, (v19.getD 44 d0).ll] (1 : Int)) 6 fun l20 k21 =>
 (r_laws_heldDef [.i ((v19.getD 34 d0).ii), .b ((v19.getD 35 d0).bb), .s ((v19.getD 36 d0).ss), .s ((v19.getD 37 d0).ss), .sl (l20.getD 0 []), .sl (l20.getD 1 []), .sl (l20.getD 2 []), .sl (l20.getD 3 []), .sl (l20.getD 4 []), .b ((v19.getD 43 d0).bb), .sl (l20.getD 5 []), .i (1 : Int)]).bindR fun r22 =>
 if (decide ((r22.getD 0 d0).ii < (0 : Int))) = true then
 .ret [.b false]
 else
 if ((r22.getD 0 d0).ii != k21) = true then
 .ret [.b false]
 else
 (r_laws_toDef [.i ((v19.getD 1 d0).ii), .b ((v19.getD 2 d0).bb), .s ((v19.getD 3 d0).ss), .s ((v19.getD 4 d0).ss), .sl ((v19.getD 5 d0).ll), .sl ((v19.getD 6 d0).ll), .sl ((v19.getD 7 d0).ll), .sl ((v19.getD 8 d0).ll), .sl ((v19.getD 9 d0).ll), .b ((v19.getD 10 d0).bb), .sl ((v19.getD 11 d0).ll)]).bindR fun r23 =>
 (r_laws_toDef [.i ((v19.getD 12 d0).ii), .b ((v19.getD 13 d0).bb), .s ((v19.getD 14 d0).ss), .s ((v19.getD 15 d0).ss), .sl ((v19.getD 16 d0).ll), .sl ((v19.getD 17 d0).ll), .sl ((v19.getD 18 d0).ll), .sl ((v19.getD 19 d0).ll), .sl ((v19.getD 20 d0).ll), .b ((v19.getD 21 d0).bb), .sl ((v19.getD 22 d0).ll)]).bindR fun r24 =>
 (r_impl_Added [.i ((r23.getD 0 d0).ii), .b ((r23.getD 1 d0).bb), .s ((r23.getD 2 d0).ss), .s ((r23.getD 3 d0).ss), .sl ((r23.getD 4 d0).ll), .sl ((r23.getD 5 d0).ll), .sl ((r23.getD 6 d0).ll), .sl ((r23.getD 7 d0).ll), .sl ((r23.getD 8 d0).ll), .b ((r23.getD 9 d0).bb), .sl ((r23.getD 10 d0).ll), .i ((r24.getD 0 d0).ii), .b ((r24.getD 1 d0).bb), .s ((r24.getD 2 d0).ss), .s ((r24.getD 3 d0).ss), .sl ((r24.getD 4 d0).ll), .sl ((r24.getD 5 d0).ll), .sl ((r24.getD 6 d0).ll), .sl ((r24.getD 7 d0).ll), .sl ((r24.getD 8 d0).ll), .b ((r24.getD 9 d0).bb), .sl ((r24.getD 10 d0).ll)]).bindR fun r25 =>
 (r_laws_eqDef [.i ((r25.getD 0 d0).ii), .b ((r25.getD 1 d0).bb), .s ((r25.getD 2 d0).ss), .s ((r25.getD 3 d0).ss), .sl ((r25.getD 4 d0).ll), .sl ((r25.getD 5 d0).ll), .sl ((r25.getD 6 d0).ll), .sl ((r25.getD 7 d0).ll), .sl ((r25.getD 8 d0).ll), .b ((r25.getD 9 d0).bb), .sl ((r25.getD 10 d0).ll), .i ((v19.getD 23 d0).ii), .b ((v19.getD 24 d0).bb), .s ((v19.getD 25 d0).ss), .s ((v19.getD 26 d0).ss), .sl ((v19.getD 27 d0).ll), .sl ((v19.getD 28 d0).ll), .sl ((v19.getD 29 d0).ll), .sl ((v19.getD 30 d0).ll), .sl ((v19.getD 31 d0).ll), .b ((v19.getD 32 d0).bb), .sl ((v19.getD 33 d0).ll)]).bindR fun r26 =>
 if (!((r26.getD 0 d0).bb)) = true then
 .ret [.b false]
 else
 (r_laws_heldDef [.i ((v19.getD 34 d0).ii), .b ((v19.getD 35 d0).bb), .s ((v19.getD 36 d0).ss), .s ((v19.getD 37 d0).ss), .sl (l20.getD 0 []), .sl (l20.getD 1 []), .sl (l20.getD 2 []), .sl (l20.getD 3 []), .sl (l20.getD 4 []), .b ((v19.getD 43 d0).bb), .sl (l20.getD 5 []), .i (1 : Int)]).bindR fun r27 =>
 if (decide ((r27.getD 0 d0).ii < (0 : Int))) = true then
 .ret [.b false]
 else
 if ((r27.getD 0 d0).ii != k21) = true then
 .ret [.b false]
 else
 .ret [.b true]
theorem eq_laws_FnExactAdded a : r_laws_FnExactAdded a = E_laws_FnExactAdded a := (Run_eq cfg 6 _ a).trans (by kernel_rfl)
noncomputable def E_laws_szDef (a : List DC) : Out :=
 if (decide ((IntKind.i64.wrap ((a.getD 11 d0).ii - (((a.getD 2 d0).ss).length : Int))) < (0 : Int))) = true then
 .ret [.i (-1 : Int)]
 else
 if (decide ((IntKind.i64.wrap ((IntKind.i64.wrap ((a.getD 11 d0).ii - (((a.getD 2 d0).ss).length : Int))) - (((a.getD 3 d0).ss).length : Int))) < (0 : Int))) = true then
 .ret [.i (-1 : Int)]
 else
 (r_laws_szStringS [.sl ((a.getD 4 d0).ll), .i (IntKind.i64.wrap ((IntKind.i64.wrap ((a.getD 11 d0).ii - (((a.getD 2 d0).ss).length : Int))) - (((a.getD 3 d0).ss).length : Int)))]).bindR fun r1 =>
 if (decide ((r1.getD 0 d0).ii < (0 : Int))) = true then
 .ret [.i (-1 : Int)]
 else
 (r_laws_szFieldDefS [.sl ((a.getD 5 d0).ll), .i ((r1.getD 0 d0).ii)]).bindR fun r2 =>
 if (decide ((r2.getD 0 d0).ii < (0 : Int))) = true then
 .ret [.i (-1 : Int)]
 else
 (r_laws_szInDefS [.sl ((a.getD 6 d0).ll), .i ((r2.getD 0 d0).ii)]).bindR fun r3 =>
 if (decide ((r3.getD 0 d0).ii < (0 : Int))) = true then
 .ret [.i (-1 : Int)]
 else
 (r_laws_szEnumDefS [.sl ((a.getD 7 d0).ll), .i ((r3.getD 0 d0).ii)]).bindR fun r4 =>
 if (decide ((r4.getD 0 d0).ii < (0 : Int))) = true then
 .ret [.i (-1 : Int)]
 else
 (r_laws_szRootS [.sl ((a.getD 8 d0).ll), .i ((r4.getD 0 d0).ii)]).bindR fun r5 =>
 if (decide ((r5.getD 0 d0).ii < (0 : Int))) = true then
 .ret [.i (-1 : Int)]
 else
 (r_laws_szDirS [.sl ((a.getD 10 d0).ll), .i ((r5.getD 0 d0).ii)]).bindR fun r6 =>
 if (decide ((r6.getD 0 d0).ii < (0 : Int))) = true then
 .ret [.i (-1 : Int)]
 else
 .ret [.i ((r6.getD 0 d0).ii)]
theorem eq_laws_szDef a : r_laws_szDef a = E_laws_szDef a := (Run_eq cfg 28 _ a).trans (by kernel_rfl)
noncomputable def E_laws_toDef (a : List DC) : Out :=
 (r_laws_toStringS [.sl ((a.getD 4 d0).ll)]).bindR fun r1 =>
 (r_laws_toFieldDefS [.sl ((a.getD 5 d0).ll)]).bindR fun r2 =>
 (r_laws_toInDefS [.sl ((a.getD 6 d0).ll)]).bindR fun r3 =>
 (r_laws_toEnumDefS [.sl ((a.getD 7 d0).ll)]).bindR fun r4 =>
 (r_laws_toRootS [.sl ((a.getD 8 d0).ll)]).bindR fun r5 =>
 (r_laws_toDirS [.sl ((a.getD 10 d0).ll)]).bindR fun r6 =>
 .ret [.i ((a.getD 0 d0).ii), .b ((a.getD 1 d0).bb), .s ((a.getD 2 d0).ss), .s ((a.getD 3 d0).ss), .sl ((r1.getD 0 d0).ll), .sl ((r2.getD 0 d0).ll), .sl ((r3.getD 0 d0).ll), .sl ((r4.getD 0 d0).ll), .sl ((r5.getD 0 d0).ll), .b ((a.getD 9 d0).bb), .sl ((r6.getD 0 d0).ll)]
theorem eq_laws_toDef a : r_laws_toDef a = E_laws_toDef a := (Run_eq cfg 30 _ a).trans (by kernel_rfl)
noncomputable def E_spec_Added (a : List DC) : Out :=
 (r_spec_l13Copy [.i ((a.getD 0 d0).ii), .b ((a.getD 1 d0).bb), .s ((a.getD 2 d0).ss), .s ((a.getD 3 d0).ss), .sl ((a.getD 4 d0).ll), .sl ((a.getD 5 d0).ll), .sl ((a.getD 6 d0).ll), .sl ((a.getD 7 d0).ll), .sl ((a.getD 8 d0).ll), .b ((a.getD 9 d0).bb), .sl ((a.getD 10 d0).ll)]).bindR fun r1 =>
 (r_spec_l13Copy [.i ((a.getD 11 d0).ii), .b ((a.getD 12 d0).bb), .s ((a.getD 13 d0).ss), .s ((a.getD 14 d0).ss), .sl ((a.getD 15 d0).ll), .sl ((a.getD 16 d0).ll), .sl ((a.getD 17 d0).ll), .sl ((a.getD 18 d0).ll), .sl ((a.getD 19 d0).ll), .b ((a.getD 20 d0).bb), .sl ((a.getD 21 d0).ll)]).bindR fun r2 =>
 if ((r1.getD 4 d0).ll).length + ((r2.getD 4 d0).ll).length < LIM then
 if ((r1.getD 5 d0).ll).length + ((r2.getD 5 d0).ll).length < LIM ∧ 58 = 58 then
 if ((r1.getD 6 d0).ll).length + ((r2.getD 6 d0).ll).length < LIM ∧ 26 = 26 then
 if ((r1.getD 7 d0).ll).length + ((r2.getD 7 d0).ll).length < LIM ∧ 59 = 59 then
 if ((r1.getD 8 d0).ll).length + ((r2.getD 8 d0).ll).length < LIM then
 if ((r1.getD 10 d0).ll).length + ((r2.getD 10 d0).ll).length < LIM ∧ 61 = 61 then
 .ret [.i ((r1.getD 0 d0).ii), .b ((r1.getD 1 d0).bb), .s ((r1.getD 2 d0).ss), .s ((r1.getD 3 d0).ss), .sl (((r1.getD 4 d0).ll) ++ ((r2.getD 4 d0).ll)), .sl (((r1.getD 5 d0).ll) ++ ((r2.getD 5 d0).ll)), .sl (((r1.getD 6 d0).ll) ++ ((r2.getD 6 d0).ll)), .sl (((r1.getD 7 d0).ll) ++ ((r2.getD 7 d0).ll)), .sl (((r1.getD 8 d0).ll) ++ ((r2.getD 8 d0).ll)), .b ((r1.getD 9 d0).bb), .sl (((r1.getD 10 d0).ll) ++ ((r2.getD 10 d0).ll))]
 else
 .fail
 else
 .fail
 else
 .fail
 else
 .fail
 else
 .fail
 else
 .fail
theorem eq_spec_Added a : r_spec_Added a = E_spec_Added a := (Run_eq cfg 29 _ a).trans (by kernel_rfl)
noncomputable def E_impl_Added (a : List DC) : Out :=
 (r_impl_cloneDef [.i ((a.getD 0 d0).ii), .b ((a.getD 1 d0).bb), .s ((a.getD 2 d0).ss), .s ((a.getD 3 d0).ss), .sl ((a.getD 4 d0).ll), .sl ((a.getD 5 d0).ll), .sl ((a.getD 6 d0).ll), .sl ((a.getD 7 d0).ll), .sl ((a.getD 8 d0).ll), .b ((a.getD 9 d0).bb), .sl ((a.getD 10 d0).ll)]).bindR fun r1 =>
 (r_impl_cloneDef [.i ((a.getD 11 d0).ii), .b ((a.getD 12 d0).bb), .s ((a.getD 13 d0).ss), .s ((a.getD 14 d0).ss), .sl ((a.getD 15 d0).ll), .sl ((a.getD 16 d0).ll), .sl ((a.getD 17 d0).ll), .sl ((a.getD 18 d0).ll), .sl ((a.getD 19 d0).ll), .b ((a.getD 20 d0).bb), .sl ((a.getD 21 d0).ll)]).bindR fun r2 =>
 if ((r1.getD 4 d0).ll).length + ((r2.getD 4 d0).ll).length < LIM then
 if ((r1.getD 5 d0).ll).length + ((r2.getD 5 d0).ll).length < LIM ∧ 58 = 58 then
 if ((r1.getD 6 d0).ll).length + ((r2.getD 6 d0).ll).length < LIM ∧ 26 = 26 then
 if ((r1.getD 7 d0).ll).length + ((r2.getD 7 d0).ll).length < LIM ∧ 59 = 59 then
 if ((r1.getD 8 d0).ll).length + ((r2.getD 8 d0).ll).length < LIM then
 if ((r1.getD 10 d0).ll).length + ((r2.getD 10 d0).ll).length < LIM ∧ 61 = 61 then
 .ret [.i ((r1.getD 0 d0).ii), .b ((r1.getD 1 d0).bb), .s ((r1.getD 2 d0).ss), .s ((r1.getD 3 d0).ss), .sl (((r1.getD 4 d0).ll) ++ ((r2.getD 4 d0).ll)), .sl (((r1.getD 5 d0).ll) ++ ((r2.getD 5 d0).ll)), .sl (((r1.getD 6 d0).ll) ++ ((r2.getD 6 d0).ll)), .sl (((r1.getD 7 d0).ll) ++ ((r2.getD 7 d0).ll)), .sl (((r1.getD 8 d0).ll) ++ ((r2.getD 8 d0).ll)), .b ((r1.getD 9 d0).bb), .sl (((r1.getD 10 d0).ll) ++ ((r2.getD 10 d0).ll))]
 else
 .fail
 else
 .fail
 else
 .fail
 else
 .fail
 else
 .fail
 else
 .fail
theorem eq_impl_Added a : r_impl_Added a = E_impl_Added a := (Run_eq cfg 31 _ a).trans (by kernel_rfl)
noncomputable def E_laws_eqDef (a : List DC) : Out :=
 if ((a.getD 0 d0).ii != (a.getD 11 d0).ii) = true then
 .ret [.b false]
 else
 if (!((a.getD 1 d0).bb == (a.getD 12 d0).bb)) = true then
 .ret [.b false]
 else
 if (!((a.getD 2 d0).ss == (a.getD 13 d0).ss)) = true then
 .ret [.b false]
 else
 if (!((a.getD 3 d0).ss == (a.getD 14 d0).ss)) = true then
 .ret [.b false]
 else
 (r_laws_eqStringS [.sl ((a.getD 4 d0).ll), .sl ((a.getD 15 d0).ll)]).bindR fun r1 =>
 if (!((r1.getD 0 d0).bb)) = true then
 .ret [.b false]
 else
 (r_laws_eqFieldDefS [.sl ((a.getD 5 d0).ll), .sl ((a.getD 16 d0).ll)]).bindR fun r2 =>
 if (!((r2.getD 0 d0).bb)) = true then
 .ret [.b false]
 else
 (r_laws_eqInDefS [.sl ((a.getD 6 d0).ll), .sl ((a.getD 17 d0).ll)]).bindR fun r3 =>
 if (!((r3.getD 0 d0).bb)) = true then
 .ret [.b false]
 else
 (r_laws_eqEnumDefS [.sl ((a.getD 7 d0).ll), .sl ((a.getD 18 d0).ll)]).bindR fun r4 =>
 if (!((r4.getD 0 d0).bb)) = true then
 .ret [.b false]
 else
 (r_laws_eqRootS [.sl ((a.getD 8 d0).ll), .sl ((a.getD 19 d0).ll)]).bindR fun r5 =>
 if (!((r5.getD 0 d0).bb)) = true then
 .ret [.b false]
 else
 if (!((a.getD 9 d0).bb == (a.getD 20 d0).bb)) = true then
 .ret [.b false]
 else
 (r_laws_eqDirS [.sl ((a.getD 10 d0).ll), .sl ((a.getD 21 d0).ll)]).bindR fun r6 =>
 if (!((r6.getD 0 d0).bb)) = true then
 .ret [.b false]
 else
 .ret [.b true]
theorem eq_laws_eqDef a : r_laws_eqDef a = E_laws_eqDef a := (Run_eq cfg 32 _ a).trans (by kernel_rfl)
noncomputable def E_laws_heldDef (a : List DC) : Out :=
 (r_laws_heldStringS [.sl ((a.getD 4 d0).ll), .i ((a.getD 11 d0).ii)]).bindR fun r1 =>
 if (decide ((r1.getD 0 d0).ii < (0 : Int))) = true then
 .ret [.i (-1 : Int)]
 else
 (r_laws_heldFieldDefS [.sl ((a.getD 5 d0).ll), .i ((r1.getD 0 d0).ii)]).bindR fun r2 =>
 if (decide ((r2.getD 0 d0).ii < (0 : Int))) = true then
 .ret [.i (-1 : Int)]
 else
 (r_laws_heldInDefS [.sl ((a.getD 6 d0).ll), .i ((r2.getD 0 d0).ii)]).bindR fun r3 =>
 if (decide ((r3.getD 0 d0).ii < (0 : Int))) = true then
 .ret [.i (-1 : Int)]
 else
 (r_laws_heldEnumDefS [.sl ((a.getD 7 d0).ll), .i ((r3.getD 0 d0).ii)]).bindR fun r4 =>
 if (decide ((r4.getD 0 d0).ii < (0 : Int))) = true then
 .ret [.i (-1 : Int)]
 else
 (r_laws_heldRootS [.sl ((a.getD 8 d0).ll), .i ((r4.getD 0 d0).ii)]).bindR fun r5 =>
 if (decide ((r5.getD 0 d0).ii < (0 : Int))) = true then
 .ret [.i (-1 : Int)]
 else
 (r_laws_heldDirS [.sl ((a.getD 10 d0).ll), .i ((r5.getD 0 d0).ii)]).bindR fun r6 =>
 if (decide ((r6.getD 0 d0).ii < (0 : Int))) = true then
 .ret [.i (-1 : Int)]
 else
 .ret [.i ((r6.getD 0 d0).ii)]
theorem eq_laws_heldDef a : r_laws_heldDef a = E_laws_heldDef a := (Run_eq cfg 34 _ a).trans (by kernel_rfl)
noncomputable def E_laws_szStringSL1 : List DC → Out := fun v1 =>
 if (decide ((v1.getD 2 d0).ii < (((v1.getD 0 d0).ll).length : Int))) = true then
 Out.andThenB (if 9 = 9 ∧ 0 ≤ (v1.getD 2 d0).ii ∧ (v1.getD 2 d0).ii < (((v1.getD 0 d0).ll).length : Int) then
 if (decide ((IntKind.i64.wrap ((v1.getD 1 d0).ii - ((((((v1.getD 0 d0).ll).getD ((v1.getD 2 d0).ii).toNat []).getD 0 d0).ss).length : Int))) < (0 : Int))) = true then
 .ret [.i (-1 : Int)]
 else
 .norm [.sl ((v1.getD 0 d0).ll), .i (IntKind.i64.wrap ((v1.getD 1 d0).ii - ((((((v1.getD 0 d0).ll).getD ((v1.getD 2 d0).ii).toNat []).getD 0 d0).ss).length : Int))), .i ((v1.getD 2 d0).ii)]
 else
 .fail) 1 fun v2 =>
 .norm [.sl ((v2.getD 0 d0).ll), .i ((v2.getD 1 d0).ii), .i (IntKind.i64.wrap ((v2.getD 2 d0).ii + (1 : Int)))]
 else
 .ex 0 [.i ((v1.getD 1 d0).ii)]
noncomputable def E_laws_szStringS (a : List DC) : Out :=
 if (decide ((IntKind.i64.wrap ((a.getD 1 d0).ii - (((a.getD 0 d0).ll).length : Int))) < (0 : Int))) = true then
 .ret [.i (-1 : Int)]
 else
 Out.andThenB (Loop E_laws_szStringSL1 [.sl ((a.getD 0 d0).ll), .i (IntKind.i64.wrap ((a.getD 1 d0).ii - (((a.getD 0 d0).ll).length : Int))), .i (0 : Int)]) 0 fun v3 =>
 .ret [.i ((v3.getD 0 d0).ii)]
theorem eq_laws_szStringS a : r_laws_szStringS a = E_laws_szStringS a := (Run_eq cfg 44 _ a).trans (by kernel_rfl)
noncomputable def E_laws_szFieldDefSL1 : List DC → Out := fun v1 =>
 if (decide ((v1.getD 2 d0).ii < (((v1.getD 0 d0).ll).length : Int))) = true then
 Out.andThenB (if 134 = 134 ∧ 0 ≤ (v1.getD 2 d0).ii ∧ (v1.getD 2 d0).ii < (((v1.getD 0 d0).ll).length : Int) then
 (r_laws_szFieldDef [.s (((((v1.getD 0 d0).ll).getD ((v1.getD 2 d0).ii).toNat []).getD 0 d0).ss), .s (((((v1.getD 0 d0).ll).getD ((v1.getD 2 d0).ii).toNat []).getD 1 d0).ss), .sl (((((v1.getD 0 d0).ll).getD ((v1.getD 2 d0).ii).toNat []).getD 2 d0).ll), .s (((((v1.getD 0 d0).ll).getD ((v1.getD 2 d0).ii).toNat []).getD 3 d0).ss), .s (((((v1.getD 0 d0).ll).getD ((v1.getD 2 d0).ii).toNat []).getD 4 d0).ss), .sl (((((v1.getD 0 d0).ll).getD ((v1.getD 2 d0).ii).toNat []).getD 5 d0).ll), .i ((v1.getD 1 d0).ii)]).bindR fun r2 =>
 if (decide ((r2.getD 0 d0).ii < (0 : Int))) = true then
 .ret [.i (-1 : Int)]
 else
 .norm [.sl ((v1.getD 0 d0).ll), .i ((r2.getD 0 d0).ii), .i ((v1.getD 2 d0).ii)]
 else
 .fail) 1 fun v3 =>
 .norm [.sl ((v3.getD 0 d0).ll), .i ((v3.getD 1 d0).ii), .i (IntKind.i64.wrap ((v3.getD 2 d0).ii + (1 : Int)))]
 else
 .ex 0 [.i ((v1.getD 1 d0).ii)]
noncomputable def E_laws_szFieldDefS (a : List DC) : Out :=
 if (decide ((IntKind.i64.wrap ((a.getD 1 d0).ii - (((a.getD 0 d0).ll).length : Int))) < (0 : Int))) = true then
 .ret [.i (-1 : Int)]
 else
 Out.andThenB (Loop E_laws_szFieldDefSL1 [.sl ((a.getD 0 d0).ll), .i (IntKind.i64.wrap ((a.getD 1 d0).ii - (((a.getD 0 d0).ll).length : Int))), .i (0 : Int)]) 0 fun v4 =>
 .ret [.i ((v4.getD 0 d0).ii)]
theorem eq_laws_szFieldDefS a : r_laws_szFieldDefS a = E_laws_szFieldDefS a := (Run_eq cfg 63 _ a).trans (by kernel_rfl)
noncomputable def E_laws_szInDefSL1 : List DC → Out := fun v1 =>
 if (decide ((v1.getD 2 d0).ii < (((v1.getD 0 d0).ll).length : Int))) = true then
 Out.andThenB (if 76 = 76 ∧ 0 ≤ (v1.getD 2 d0).ii ∧ (v1.getD 2 d0).ii < (((v1.getD 0 d0).ll).length : Int) then
 (r_laws_szInDef [.s (((((v1.getD 0 d0).ll).getD ((v1.getD 2 d0).ii).toNat []).getD 0 d0).ss), .s (((((v1.getD 0 d0).ll).getD ((v1.getD 2 d0).ii).toNat []).getD 1 d0).ss), .s (((((v1.getD 0 d0).ll).getD ((v1.getD 2 d0).ii).toNat []).getD 2 d0).ss), .s (((((v1.getD 0 d0).ll).getD ((v1.getD 2 d0).ii).toNat []).getD 3 d0).ss), .b (((((v1.getD 0 d0).ll).getD ((v1.getD 2 d0).ii).toNat []).getD 4 d0).bb), .i (((((v1.getD 0 d0).ll).getD ((v1.getD 2 d0).ii).toNat []).getD 5 d0).ii), .s (((((v1.getD 0 d0).ll).getD ((v1.getD 2 d0).ii).toNat []).getD 6 d0).ss), .sl (((((v1.getD 0 d0).ll).getD ((v1.getD 2 d0).ii).toNat []).getD 7 d0).ll), .sl (((((v1.getD 0 d0).ll).getD ((v1.getD 2 d0).ii).toNat []).getD 8 d0).ll), .sl (((((v1.getD 0 d0).ll).getD ((v1.getD 2 d0).ii).toNat []).getD 9 d0).ll), .i ((v1.getD 1 d0).ii)]).bindR fun r2 =>
 if (decide ((r2.getD 0 d0).ii < (0 : Int))) = true then
 .ret [.i (-1 : Int)]
 else
 .norm [.sl ((v1.getD 0 d0).ll), .i ((r2.getD 0 d0).ii), .i ((v1.getD 2 d0).ii)]
 else
 .fail) 1 fun v3 =>
 .norm [.sl ((v3.getD 0 d0).ll), .i ((v3.getD 1 d0).ii), .i (IntKind.i64.wrap ((v3.getD 2 d0).ii + (1 : Int)))]
 else
 .ex 0 [.i ((v1.getD 1 d0).ii)]
noncomputable def E_laws_szInDefS (a : List DC) : Out :=
 if (decide ((IntKind.i64.wrap ((a.getD 1 d0).ii - (((a.getD 0 d0).ll).length : Int))) < (0 : Int))) = true then
 .ret [.i (-1 : Int)]
 else
 Out.andThenB (Loop E_laws_szInDefSL1 [.sl ((a.getD 0 d0).ll), .i (IntKind.i64.wrap ((a.getD 1 d0).ii - (((a.getD 0 d0).ll).length : Int))), .i (0 : Int)]) 0 fun v4 =>
 .ret [.i ((v4.getD 0 d0).ii)]
theorem eq_laws_szInDefS a : r_laws_szInDefS a = E_laws_szInDefS a := (Run_eq cfg 7 _ a).trans (by kernel_rfl)
noncomputable def E_laws_szEnumDefSL1 : List DC → Out := fun v1 =>
 if (decide ((v1.getD 2 d0).ii < (((v1.getD 0 d0).ll).length : Int))) = true then
 Out.andThenB (if 137 = 137 ∧ 0 ≤ (v1.getD 2 d0).ii ∧ (v1.getD 2 d0).ii < (((v1.getD 0 d0).ll).length : Int) then
 (r_laws_szEnumDef [.s (((((v1.getD 0 d0).ll).getD ((v1.getD 2 d0).ii).toNat []).getD 0 d0).ss), .s (((((v1.getD 0 d0).ll).getD ((v1.getD 2 d0).ii).toNat []).getD 1 d0).ss), .sl (((((v1.getD 0 d0).ll).getD ((v1.getD 2 d0).ii).toNat []).getD 2 d0).ll), .i ((v1.getD 1 d0).ii)]).bindR fun r2 =>
 if (decide ((r2.getD 0 d0).ii < (0 : Int))) = true then
 .ret [.i (-1 : Int)]
 else
 .norm [.sl ((v1.getD 0 d0).ll), .i ((r2.getD 0 d0).ii), .i ((v1.getD 2 d0).ii)]
 else
 .fail) 1 fun v3 =>
 .norm [.sl ((v3.getD 0 d0).ll), .i ((v3.getD 1 d0).ii), .i (IntKind.i64.wrap ((v3.getD 2 d0).ii + (1 : Int)))]
 else
 .ex 0 [.i ((v1.getD 1 d0).ii)]
noncomputable def E_laws_szEnumDefS (a : List DC) : Out :=
 if (decide ((IntKind.i64.wrap ((a.getD 1 d0).ii - (((a.getD 0 d0).ll).length : Int))) < (0 : Int))) = true then
 .ret [.i (-1 : Int)]
 else
 Out.andThenB (Loop E_laws_szEnumDefSL1 [.sl ((a.getD 0 d0).ll), .i (IntKind.i64.wrap ((a.getD 1 d0).ii - (((a.getD 0 d0).ll).length : Int))), .i (0 : Int)]) 0 fun v4 =>
 .ret [.i ((v4.getD 0 d0).ii)]
theorem eq_laws_szEnumDefS a : r_laws_szEnumDefS a = E_laws_szEnumDefS a := (Run_eq cfg 64 _ a).trans (by kernel_rfl)
noncomputable def E_laws_szRootSL1 : List DC → Out := fun v1 =>
 if (decide ((v1.getD 2 d0).ii < (((v1.getD 0 d0).ll).length : Int))) = true then
 Out.andThenB (if 139 = 139 ∧ 0 ≤ (v1.getD 2 d0).ii ∧ (v1.getD 2 d0).ii < (((v1.getD 0 d0).ll).length : Int) then
 (r_laws_szRoot [.i (((((v1.getD 0 d0).ll).getD ((v1.getD 2 d0).ii).toNat []).getD 0 d0).ii), .s (((((v1.getD 0 d0).ll).getD ((v1.getD 2 d0).ii).toNat []).getD 1 d0).ss), .i ((v1.getD 1 d0).ii)]).bindR fun r2 =>
 if (decide ((r2.getD 0 d0).ii < (0 : Int))) = true then
 .ret [.i (-1 : Int)]
 else
 .norm [.sl ((v1.getD 0 d0).ll), .i ((r2.getD 0 d0).ii), .i ((v1.getD 2 d0).ii)]
 else
 .fail) 1 fun v3 =>
 .norm [.sl ((v3.getD 0 d0).ll), .i ((v3.getD 1 d0).ii), .i (IntKind.i64.wrap ((v3.getD 2 d0).ii + (1 : Int)))]
 else
 .ex 0 [.i ((v1.getD 1 d0).ii)]
noncomputable def E_laws_szRootS (a : List DC) : Out :=
 if (decide ((IntKind.i64.wrap ((a.getD 1 d0).ii - (((a.getD 0 d0).ll).length : Int))) < (0 : Int))) = true then
 .ret [.i (-1 : Int)]
 else
 Out.andThenB (Loop E_laws_szRootSL1 [.sl ((a.getD 0 d0).ll), .i (IntKind.i64.wrap ((a.getD 1 d0).ii - (((a.getD 0 d0).ll).length : Int))), .i (0 : Int)]) 0 fun v4 =>
 .ret [.i ((v4.getD 0 d0).ii)]
theorem eq_laws_szRootS a : r_laws_szRootS a = E_laws_szRootS a := (Run_eq cfg 65 _ a).trans (by kernel_rfl)
noncomputable def E_laws_szDirSL1 : List DC → Out := fun v1 =>
 if (decide ((v1.getD 2 d0).ii < (((v1.getD 0 d0).ll).length : Int))) = true then
 Out.andThenB (if 143 = 143 ∧ 0 ≤ (v1.getD 2 d0).ii ∧ (v1.getD 2 d0).ii < (((v1.getD 0 d0).ll).length : Int) then
 (r_laws_szDir [.s (((((v1.getD 0 d0).ll).getD ((v1.getD 2 d0).ii).toNat []).getD 0 d0).ss), .sl (((((v1.getD 0 d0).ll).getD ((v1.getD 2 d0).ii).toNat []).getD 1 d0).ll), .i ((v1.getD 1 d0).ii)]).bindR fun r2 =>
 if (decide ((r2.getD 0 d0).ii < (0 : Int))) = true then
 .ret [.i (-1 : Int)]
 else
 .norm [.sl ((v1.getD 0 d0).ll), .i ((r2.getD 0 d0).ii), .i ((v1.getD 2 d0).ii)]
 else
 .fail) 1 fun v3 =>
 .norm [.sl ((v3.getD 0 d0).ll), .i ((v3.getD 1 d0).ii), .i (IntKind.i64.wrap ((v3.getD 2 d0).ii + (1 : Int)))]
 else
 .ex 0 [.i ((v1.getD 1 d0).ii)]
noncomputable def E_laws_szDirS (a : List DC) : Out :=
 if (decide ((IntKind.i64.wrap ((a.getD 1 d0).ii - (((a.getD 0 d0).ll).length : Int))) < (0 : Int))) = true then
 .ret [.i (-1 : Int)]
 else
 Out.andThenB (Loop E_laws_szDirSL1 [.sl ((a.getD 0 d0).ll), .i (IntKind.i64.wrap ((a.getD 1 d0).ii - (((a.getD 0 d0).ll).length : Int))), .i (0 : Int)]) 0 fun v4 =>
 .ret [.i ((v4.getD 0 d0).ii)]
theorem eq_laws_szDirS a : r_laws_szDirS a = E_laws_szDirS a := (Run_eq cfg 66 _ a).trans (by kernel_rfl)
noncomputable def E_laws_toStringSL1 : List DC → Out := fun v1 =>
 if (decide ((v1.getD 2 d0).ii < (((v1.getD 0 d0).ll).length : Int))) = true then
 Out.andThenB (if 9 = 9 ∧ 0 ≤ (v1.getD 2 d0).ii ∧ (v1.getD 2 d0).ii < (((v1.getD 0 d0).ll).length : Int) then
 if 9 = 9 ∧ 0 ≤ (v1.getD 2 d0).ii ∧ (v1.getD 2 d0).ii < (((v1.getD 1 d0).ll).length : Int) then
 .norm [.sl ((v1.getD 0 d0).ll), .sl (((v1.getD 1 d0).ll).set (((v1.getD 2 d0).ii).toNat) (setRunD (((v1.getD 1 d0).ll).getD (((v1.getD 2 d0).ii).toNat) []) 0 [DC.s (((((v1.getD 0 d0).ll).getD ((v1.getD 2 d0).ii).toNat []).getD 0 d0).ss)])), .i ((v1.getD 2 d0).ii)]
 else
 .fail
 else
 .fail) 1 fun v2 =>
 .norm [.sl ((v2.getD 0 d0).ll), .sl ((v2.getD 1 d0).ll), .i (IntKind.i64.wrap ((v2.getD 2 d0).ii + (1 : Int)))]
 else
 .ex 0 [.sl ((v1.getD 1 d0).ll)]
noncomputable def E_laws_toStringS (a : List DC) : Out :=
 if 0 ≤ (((a.getD 0 d0).ll).length : Int) ∧ (((a.getD 0 d0).ll).length : Int) < (LIM : Int) ∧ (((a.getD 0 d0).ll).length : Int) = (((a.getD 0 d0).ll).length : Int) ∧ 16 ≤ 1024 ∧ 0 < 1 ∧ dp 9 = false then
 Out.andThenB (Loop E_laws_toStringSL1 [.sl ((a.getD 0 d0).ll), .sl (List.replicate (((a.getD 0 d0).ll).length : Int).toNat [DC.s []]), .i (0 : Int)]) 0 fun v3 =>
 .ret [.sl ((v3.getD 0 d0).ll)]
 else
 .fail
theorem eq_laws_toStringS a : r_laws_toStringS a = E_laws_toStringS a := (Run_eq cfg 48 _ a).trans (by kernel_rfl)
noncomputable def E_laws_toFieldDefSL1 : List DC → Out := fun v1 =>
 if (decide ((v1.getD 2 d0).ii < (((v1.getD 0 d0).ll).length : Int))) = true then
 Out.andThenB (if 134 = 134 ∧ 0 ≤ (v1.getD 2 d0).ii ∧ (v1.getD 2 d0).ii < (((v1.getD 0 d0).ll).length : Int) then
 (r_laws_toFieldDef [.s (((((v1.getD 0 d0).ll).getD ((v1.getD 2 d0).ii).toNat []).getD 0 d0).ss), .s (((((v1.getD 0 d0).ll).getD ((v1.getD 2 d0).ii).toNat []).getD 1 d0).ss), .sl (((((v1.getD 0 d0).ll).getD ((v1.getD 2 d0).ii).toNat []).getD 2 d0).ll), .s (((((v1.getD 0 d0).ll).getD ((v1.getD 2 d0).ii).toNat []).getD 3 d0).ss), .s (((((v1.getD 0 d0).ll).getD ((v1.getD 2 d0).ii).toNat []).getD 4 d0).ss), .sl (((((v1.getD 0 d0).ll).getD ((v1.getD 2 d0).ii).toNat []).getD 5 d0).ll)]).bindR fun r2 =>
 if 127 = 127 ∧ 0 ≤ (v1.getD 2 d0).ii ∧ (v1.getD 2 d0).ii < (((v1.getD 1 d0).ll).length : Int) then
 .norm [.sl ((v1.getD 0 d0).ll), .sl (((v1.getD 1 d0).ll).set (((v1.getD 2 d0).ii).toNat) (setRunD (((v1.getD 1 d0).ll).getD (((v1.getD 2 d0).ii).toNat) []) 0 [DC.s ((r2.getD 0 d0).ss), DC.s ((r2.getD 1 d0).ss), DC.sl ((r2.getD 2 d0).ll), DC.s ((r2.getD 3 d0).ss), DC.s ((r2.getD 4 d0).ss), DC.sl ((r2.getD 5 d0).ll)])), .i ((v1.getD 2 d0).ii)]
 else
 .fail
 else
 .fail) 1 fun v3 =>
 .norm [.sl ((v3.getD 0 d0).ll), .sl ((v3.getD 1 d0).ll), .i (IntKind.i64.wrap ((v3.getD 2 d0).ii + (1 : Int)))]
 else
 .ex 0 [.sl ((v1.getD 1 d0).ll)]
noncomputable def E_laws_toFieldDefS (a : List DC) : Out :=
 if 0 ≤ (((a.getD 0 d0).ll).length : Int) ∧ (((a.getD 0 d0).ll).length : Int) < (LIM : Int) ∧ (((a.getD 0 d0).ll).length : Int) = (((a.getD 0 d0).ll).length : Int) ∧ 112 ≤ 1024 ∧ 0 < 6 ∧ dp 127 = false then
 Out.andThenB (Loop E_laws_toFieldDefSL1 [.sl ((a.getD 0 d0).ll), .sl (List.replicate (((a.getD 0 d0).ll).length : Int).toNat [DC.s [], DC.s [], DC.sl [], DC.s [], DC.s [], DC.sl []]), .i (0 : Int)]) 0 fun v4 =>
 .ret [.sl ((v4.getD 0 d0).ll)]
 else
 .fail
theorem eq_laws_toFieldDefS a : r_laws_toFieldDefS a = E_laws_toFieldDefS a := (Run_eq cfg 68 _ a).trans (by kernel_rfl)
noncomputable def E_laws_toInDefSL1 : List DC → Out := fun v1 =>
 if (decide ((v1.getD 2 d0).ii < (((v1.getD 0 d0).ll).length : Int))) = true then
 Out.andThenB (if 76 = 76 ∧ 0 ≤ (v1.getD 2 d0).ii ∧ (v1.getD 2 d0).ii < (((v1.getD 0 d0).ll).length : Int) then
 (r_laws_toInDef [.s (((((v1.getD 0 d0).ll).getD ((v1.getD 2 d0).ii).toNat []).getD 0 d0).ss), .s (((((v1.getD 0 d0).ll).getD ((v1.getD 2 d0).ii).toNat []).getD 1 d0).ss), .s (((((v1.getD 0 d0).ll).getD ((v1.getD 2 d0).ii).toNat []).getD 2 d0).ss), .s (((((v1.getD 0 d0).ll).getD ((v1.getD 2 d0).ii).toNat []).getD 3 d0).ss), .b (((((v1.getD 0 d0).ll).getD ((v1.getD 2 d0).ii).toNat []).getD 4 d0).bb), .i (((((v1.getD 0 d0).ll).getD ((v1.getD 2 d0).ii).toNat []).getD 5 d0).ii), .s (((((v1.getD 0 d0).ll).getD ((v1.getD 2 d0).ii).toNat []).getD 6 d0).ss), .sl (((((v1.getD 0 d0).ll).getD ((v1.getD 2 d0).ii).toNat []).getD 7 d0).ll), .sl (((((v1.getD 0 d0).ll).getD ((v1.getD 2 d0).ii).toNat []).getD 8 d0).ll), .sl (((((v1.getD 0 d0).ll).getD ((v1.getD 2 d0).ii).toNat []).getD 9 d0).ll)]).bindR fun r2 =>
 if 83 = 83 ∧ 0 ≤ (v1.getD 2 d0).ii ∧ (v1.getD 2 d0).ii < (((v1.getD 1 d0).ll).length : Int) then
 .norm [.sl ((v1.getD 0 d0).ll), .sl (((v1.getD 1 d0).ll).set (((v1.getD 2 d0).ii).toNat) (setRunD (((v1.getD 1 d0).ll).getD (((v1.getD 2 d0).ii).toNat) []) 0 [DC.s ((r2.getD 0 d0).ss), DC.s ((r2.getD 1 d0).ss), DC.s ((r2.getD 2 d0).ss), DC.s ((r2.getD 3 d0).ss), DC.b ((r2.getD 4 d0).bb), DC.i ((r2.getD 5 d0).ii), DC.s ((r2.getD 6 d0).ss), DC.sl ((r2.getD 7 d0).ll), DC.sl ((r2.getD 8 d0).ll), DC.sl ((r2.getD 9 d0).ll)])), .i ((v1.getD 2 d0).ii)]
 else
 .fail
 else
 .fail) 1 fun v3 =>
 .norm [.sl ((v3.getD 0 d0).ll), .sl ((v3.getD 1 d0).ll), .i (IntKind.i64.wrap ((v3.getD 2 d0).ii + (1 : Int)))]
 else
 .ex 0 [.sl ((v1.getD 1 d0).ll)]
noncomputable def E_laws_toInDefS (a : List DC) : Out :=
 if 0 ≤ (((a.getD 0 d0).ll).length : Int) ∧ (((a.getD 0 d0).ll).length : Int) < (LIM : Int) ∧ (((a.getD 0 d0).ll).length : Int) = (((a.getD 0 d0).ll).length : Int) ∧ 168 ≤ 1024 ∧ 0 < 10 ∧ dp 83 = false then
 Out.andThenB (Loop E_laws_toInDefSL1 [.sl ((a.getD 0 d0).ll), .sl (List.replicate (((a.getD 0 d0).ll).length : Int).toNat [DC.s [], DC.s [], DC.s [], DC.s [], DC.b false, DC.i 0, DC.s [], DC.sl [], DC.sl [], DC.sl []]), .i (0 : Int)]) 0 fun v4 =>
 .ret [.sl ((v4.getD 0 d0).ll)]
 else
 .fail
theorem eq_laws_toInDefS a : r_laws_toInDefS a = E_laws_toInDefS a := (Run_eq cfg 9 _ a).trans (by kernel_rfl)
noncomputable def E_laws_toEnumDefSL1 : List DC → Out := fun v1 =>
 if (decide ((v1.getD 2 d0).ii < (((v1.getD 0 d0).ll).length : Int))) = true then
 Out.andThenB (if 137 = 137 ∧ 0 ≤ (v1.getD 2 d0).ii ∧ (v1.getD 2 d0).ii < (((v1.getD 0 d0).ll).length : Int) then
 (r_laws_toEnumDef [.s (((((v1.getD 0 d0).ll).getD ((v1.getD 2 d0).ii).toNat []).getD 0 d0).ss), .s (((((v1.getD 0 d0).ll).getD ((v1.getD 2 d0).ii).toNat []).getD 1 d0).ss), .sl (((((v1.getD 0 d0).ll).getD ((v1.getD 2 d0).ii).toNat []).getD 2 d0).ll)]).bindR fun r2 =>
 if 129 = 129 ∧ 0 ≤ (v1.getD 2 d0).ii ∧ (v1.getD 2 d0).ii < (((v1.getD 1 d0).ll).length : Int) then
 .norm [.sl ((v1.getD 0 d0).ll), .sl (((v1.getD 1 d0).ll).set (((v1.getD 2 d0).ii).toNat) (setRunD (((v1.getD 1 d0).ll).getD (((v1.getD 2 d0).ii).toNat) []) 0 [DC.s ((r2.getD 0 d0).ss), DC.s ((r2.getD 1 d0).ss), DC.sl ((r2.getD 2 d0).ll)])), .i ((v1.getD 2 d0).ii)]
 else
 .fail
 else
 .fail) 1 fun v3 =>
 .norm [.sl ((v3.getD 0 d0).ll), .sl ((v3.getD 1 d0).ll), .i (IntKind.i64.wrap ((v3.getD 2 d0).ii + (1 : Int)))]
 else
 .ex 0 [.sl ((v1.getD 1 d0).ll)]
noncomputable def E_laws_toEnumDefS (a : List DC) : Out :=
 if 0 ≤ (((a.getD 0 d0).ll).length : Int) ∧ (((a.getD 0 d0).ll).length : Int) < (LIM : Int) ∧ (((a.getD 0 d0).ll).length : Int) = (((a.getD 0 d0).ll).length : Int) ∧ 56 ≤ 1024 ∧ 0 < 3 ∧ dp 129 = false then
 Out.andThenB (Loop E_laws_toEnumDefSL1 [.sl ((a.getD 0 d0).ll), .sl (List.replicate (((a.getD 0 d0).ll).length : Int).toNat [DC.s [], DC.s [], DC.sl []]), .i (0 : Int)]) 0 fun v4 =>
 .ret [.sl ((v4.getD 0 d0).ll)]
 else
 .fail
theorem eq_laws_toEnumDefS a : r_laws_toEnumDefS a = E_laws_toEnumDefS a := (Run_eq cfg 69 _ a).trans (by kernel_rfl)
noncomputable def E_laws_toRootSL1 : List DC → Out := fun v1 =>
 if (decide ((v1.getD 2 d0).ii < (((v1.getD 0 d0).ll).length : Int))) = true then
 Out.andThenB (if 139 = 139 ∧ 0 ≤ (v1.getD 2 d0).ii ∧ (v1.getD 2 d0).ii < (((v1.getD 0 d0).ll).length : Int) then
 (r_laws_toRoot [.i (((((v1.getD 0 d0).ll).getD ((v1.getD 2 d0).ii).toNat []).getD 0 d0).ii), .s (((((v1.getD 0 d0).ll).getD ((v1.getD 2 d0).ii).toNat []).getD 1 d0).ss)]).bindR fun r2 =>
 if 131 = 131 ∧ 0 ≤ (v1.getD 2 d0).ii ∧ (v1.getD 2 d0).ii < (((v1.getD 1 d0).ll).length : Int) then
 .norm [.sl ((v1.getD 0 d0).ll), .sl (((v1.getD 1 d0).ll).set (((v1.getD 2 d0).ii).toNat) (setRunD (((v1.getD 1 d0).ll).getD (((v1.getD 2 d0).ii).toNat) []) 0 [DC.i ((r2.getD 0 d0).ii), DC.s ((r2.getD 1 d0).ss)])), .i ((v1.getD 2 d0).ii)]
 else
 .fail
 else
 .fail) 1 fun v3 =>
 .norm [.sl ((v3.getD 0 d0).ll), .sl ((v3.getD 1 d0).ll), .i (IntKind.i64.wrap ((v3.getD 2 d0).ii + (1 : Int)))]
 else
 .ex 0 [.sl ((v1.getD 1 d0).ll)]
noncomputable def E_laws_toRootS (a : List DC) : Out :=
 if 0 ≤ (((a.getD 0 d0).ll).length : Int) ∧ (((a.getD 0 d0).ll).length : Int) < (LIM : Int) ∧ (((a.getD 0 d0).ll).length : Int) = (((a.getD 0 d0).ll).length : Int) ∧ 24 ≤ 1024 ∧ 0 < 2 ∧ dp 131 = false then
 Out.andThenB (Loop E_laws_toRootSL1 [.sl ((a.getD 0 d0).ll), .sl (List.replicate (((a.getD 0 d0).ll).length : Int).toNat [DC.i 0, DC.s []]), .i (0 : Int)]) 0 fun v4 =>
 .ret [.sl ((v4.getD 0 d0).ll)]
 else
 .fail
theorem eq_laws_toRootS a : r_laws_toRootS a = E_laws_toRootS a := (Run_eq cfg 70 _ a).trans (by kernel_rfl)
noncomputable def E_laws_toDirSL1 : List DC → Out := fun v1 =>
 if (decide ((v1.getD 2 d0).ii < (((v1.getD 0 d0).ll).length : Int))) = true then
 Out.andThenB (if 143 = 143 ∧ 0 ≤ (v1.getD 2 d0).ii ∧ (v1.getD 2 d0).ii < (((v1.getD 0 d0).ll).length : Int) then
 (r_laws_toDir [.s (((((v1.getD 0 d0).ll).getD ((v1.getD 2 d0).ii).toNat []).getD 0 d0).ss), .sl (((((v1.getD 0 d0).ll).getD ((v1.getD 2 d0).ii).toNat []).getD 1 d0).ll)]).bindR fun r2 =>
 if 122 = 122 ∧ 0 ≤ (v1.getD 2 d0).ii ∧ (v1.getD 2 d0).ii < (((v1.getD 1 d0).ll).length : Int) then
 .norm [.sl ((v1.getD 0 d0).ll), .sl (((v1.getD 1 d0).ll).set (((v1.getD 2 d0).ii).toNat) (setRunD (((v1.getD 1 d0).ll).getD (((v1.getD 2 d0).ii).toNat) []) 0 [DC.s ((r2.getD 0 d0).ss), DC.sl ((r2.getD 1 d0).ll)])), .i ((v1.getD 2 d0).ii)]
 else
 .fail
 else
 .fail) 1 fun v3 =>
 .norm [.sl ((v3.getD 0 d0).ll), .sl ((v3.getD 1 d0).ll), .i (IntKind.i64.wrap ((v3.getD 2 d0).ii + (1 : Int)))]
 else
 .ex 0 [.sl ((v1.getD 1 d0).ll)]
noncomputable def E_laws_toDirS (a : List DC) : Out :=
 if 0 ≤ (((a.getD 0 d0).ll).length : Int) ∧ (((a.getD 0 d0).ll).length : Int) < (LIM : Int) ∧ (((a.getD 0 d0).ll).length : Int) = (((a.getD 0 d0).ll).length : Int) ∧ 40 ≤ 1024 ∧ 0 < 2 ∧ dp 122 = false then
 Out.andThenB (Loop E_laws_toDirSL1 [.sl ((a.getD 0 d0).ll), .sl (List.replicate (((a.getD 0 d0).ll).length : Int).toNat [DC.s [], DC.sl []]), .i (0 : Int)]) 0 fun v4 =>
 .ret [.sl ((v4.getD 0 d0).ll)]
 else
 .fail
theorem eq_laws_toDirS a : r_laws_toDirS a = E_laws_toDirS a := (Run_eq cfg 71 _ a).trans (by kernel_rfl)
noncomputable def E_spec_l13Copy (a : List DC) : Out :=
 if ([] : List (List DC)).length + ((a.getD 4 d0).ll).length < LIM then
 (r_spec_l13CopyFields [.sl ((a.getD 5 d0).ll)]).bindR fun r1 =>
 (r_spec_l13CopyIns [.sl ((a.getD 6 d0).ll)]).bindR fun r2 =>
 (r_spec_l13CopyValues [.sl ((a.getD 7 d0).ll)]).bindR fun r3 =>
 if ([] : List (List DC)).length + ((a.getD 8 d0).ll).length < LIM then
 (r_spec_l10Dirs [.sl ((a.getD 10 d0).ll)]).bindR fun r4 =>
 .ret [.i ((a.getD 0 d0).ii), .b ((a.getD 1 d0).bb), .s ((a.getD 2 d0).ss), .s ((a.getD 3 d0).ss), .sl (([] : List (List DC)) ++ ((a.getD 4 d0).ll)), .sl ((r1.getD 0 d0).ll), .sl ((r2.getD 0 d0).ll), .sl ((r3.getD 0 d0).ll), .sl (([] : List (List DC)) ++ ((a.getD 8 d0).ll)), .b ((a.getD 9 d0).bb), .sl ((r4.getD 0 d0).ll)]
 else
 .fail
 else
 .fail
theorem eq_spec_l13Copy a : r_spec_l13Copy a = E_spec_l13Copy a := (Run_eq cfg 67 _ a).trans (by kernel_rfl)
noncomputable def E_impl_cloneDef (a : List DC) : Out :=
 (r_slices_Clone_string [.sl ((a.getD 4 d0).ll)]).bindR fun r1 =>
 (r_impl_cloneFields [.sl ((a.getD 5 d0).ll)]).bindR fun r2 =>
 (r_impl_cloneIns [.sl ((a.getD 6 d0).ll)]).bindR fun r3 =>
 (r_impl_cloneEnums [.sl ((a.getD 7 d0).ll)]).bindR fun r4 =>
 (r_slices_Clone_impl_Root [.sl ((a.getD 8 d0).ll)]).bindR fun r5 =>
 (r_impl_cloneDirs [.sl ((a.getD 10 d0).ll)]).bindR fun r6 =>
 .ret [.i ((a.getD 0 d0).ii), .b ((a.getD 1 d0).bb), .s ((a.getD 2 d0).ss), .s ((a.getD 3 d0).ss), .sl ((r1.getD 0 d0).ll), .sl ((r2.getD 0 d0).ll), .sl ((r3.getD 0 d0).ll), .sl ((r4.getD 0 d0).ll), .sl ((r5.getD 0 d0).ll), .b ((a.getD 9 d0).bb), .sl ((r6.getD 0 d0).ll)]
theorem eq_impl_cloneDef a : r_impl_cloneDef a = E_impl_cloneDef a := (Run_eq cfg 72 _ a).trans (by kernel_rfl)
noncomputable def E_laws_eqStringSL1 : List DC → Out := fun v1 =>
 if (decide ((v1.getD 2 d0).ii < (((v1.getD 0 d0).ll).length : Int))) = true then
 Out.andThenB (if 9 = 9 ∧ 0 ≤ (v1.getD 2 d0).ii ∧ (v1.getD 2 d0).ii < (((v1.getD 0 d0).ll).length : Int) then
 if 9 = 9 ∧ 0 ≤ (v1.getD 2 d0).ii ∧ (v1.getD 2 d0).ii < (((v1.getD 1 d0).ll).length : Int) then
 if (!(((((v1.getD 0 d0).ll).getD ((v1.getD 2 d0).ii).toNat []).getD 0 d0).ss == ((((v1.getD 1 d0).ll).getD ((v1.getD 2 d0).ii).toNat []).getD 0 d0).ss)) = true then
 .ret [.b false]
 else
 .norm [.sl ((v1.getD 0 d0).ll), .sl ((v1.getD 1 d0).ll), .i ((v1.getD 2 d0).ii)]
 else
 .fail
 else
 .fail) 1 fun v2 =>
 .norm [.sl ((v2.getD 0 d0).ll), .sl ((v2.getD 1 d0).ll), .i (IntKind.i64.wrap ((v2.getD 2 d0).ii + (1 : Int)))]
 else
 .ex 0 []
noncomputable def E_laws_eqStringS (a : List DC) : Out :=
 if ((((a.getD 0 d0).ll).length : Int) != (((a.getD 1 d0).ll).length : Int)) = true then
 .ret [.b false]
 else
 Out.andThenB (Loop E_laws_eqStringSL1 [.sl ((a.getD 0 d0).ll), .sl ((a.getD 1 d0).ll), .i (0 : Int)]) 0 fun v3 =>
 .ret [.b true]
theorem eq_laws_eqStringS a : r_laws_eqStringS a = E_laws_eqStringS a := (Run_eq cfg 11 _ a).trans (by kernel_rfl)
noncomputable def E_laws_eqFieldDefSL1 : List DC → Out := fun v1 =>
 if (decide ((v1.getD 2 d0).ii < (((v1.getD 0 d0).ll).length : Int))) = true then
 Out.andThenB (if 127 = 127 ∧ 0 ≤ (v1.getD 2 d0).ii ∧ (v1.getD 2 d0).ii < (((v1.getD 0 d0).ll).length : Int) then
 if 127 = 127 ∧ 0 ≤ (v1.getD 2 d0).ii ∧ (v1.getD 2 d0).ii < (((v1.getD 1 d0).ll).length : Int) then
 (r_laws_eqFieldDef [.s (((((v1.getD 0 d0).ll).getD ((v1.getD 2 d0).ii).toNat []).getD 0 d0).ss), .s (((((v1.getD 0 d0).ll).getD ((v1.getD 2 d0).ii).toNat []).getD 1 d0).ss), .sl (((((v1.getD 0 d0).ll).getD ((v1.getD 2 d0).ii).toNat []).getD 2 d0).ll), .s (((((v1.getD 0 d0).ll).getD ((v1.getD 2 d0).ii).toNat []).getD 3 d0).ss), .s (((((v1.getD 0 d0).ll).getD ((v1.getD 2 d0).ii).toNat []).getD 4 d0).ss), .sl (((((v1.getD 0 d0).ll).getD ((v1.getD 2 d0).ii).toNat []).getD 5 d0).ll), .s (((((v1.getD 1 d0).ll).getD ((v1.getD 2 d0).ii).toNat []).getD 0 d0).ss), .s (((((v1.getD 1 d0).ll).getD ((v1.getD 2 d0).ii).toNat []).getD 1 d0).ss), .sl (((((v1.getD 1 d0).ll).getD ((v1.getD 2 d0).ii).toNat []).getD 2 d0).ll), .s (((((v1.getD 1 d0).ll).getD ((v1.getD 2 d0).ii).toNat []).getD 3 d0).ss), .s (((((v1.getD 1 d0).ll).getD ((v1.getD 2 d0).ii).toNat []).getD 4 d0).ss), .sl (((((v1.getD 1 d0).ll).getD ((v1.getD 2 d0).ii).toNat []).getD 5 d0).ll)]).bindR fun r2 =>
 if (!((r2.getD 0 d0).bb)) = true then
 .ret [.b false]
 else
 .norm [.sl ((v1.getD 0 d0).ll), .sl ((v1.getD 1 d0).ll), .i ((v1.getD 2 d0).ii)]
 else
 .fail
 else
 .fail) 1 fun v3 =>
 .norm [.sl ((v3.getD 0 d0).ll), .sl ((v3.getD 1 d0).ll), .i (IntKind.i64.wrap ((v3.getD 2 d0).ii + (1 : Int)))]
 else
 .ex 0 []
noncomputable def E_laws_eqFieldDefS (a : List DC) : Out :=
 if ((((a.getD 0 d0).ll).length : Int) != (((a.getD 1 d0).ll).length : Int)) = true then
 .ret [.b false]
 else
 Out.andThenB (Loop E_laws_eqFieldDefSL1 [.sl ((a.getD 0 d0).ll), .sl ((a.getD 1 d0).ll), .i (0 : Int)]) 0 fun v4 =>
 .ret [.b true]
theorem eq_laws_eqFieldDefS a : r_laws_eqFieldDefS a = E_laws_eqFieldDefS a := (Run_eq cfg 73 _ a).trans (by kernel_rfl)
noncomputable def E_laws_eqInDefSL1 : List DC → Out := fun v1 =>
 if (decide ((v1.getD 2 d0).ii < (((v1.getD 0 d0).ll).length : Int))) = true then
 Out.andThenB (if 83 = 83 ∧ 0 ≤ (v1.getD 2 d0).ii ∧ (v1.getD 2 d0).ii < (((v1.getD 0 d0).ll).length : Int) then
 if 83 = 83 ∧ 0 ≤ (v1.getD 2 d0).ii ∧ (v1.getD 2 d0).ii < (((v1.getD 1 d0).ll).length : Int) then
 (r_laws_eqInDef [.s (((((v1.getD 0 d0).ll).getD ((v1.getD 2 d0).ii).toNat []).getD 0 d0).ss), .s (((((v1.getD 0 d0).ll).getD ((v1.getD 2 d0).ii).toNat []).getD 1 d0).ss), .s (((((v1.getD 0 d0).ll).getD ((v1.getD 2 d0).ii).toNat []).getD 2 d0).ss), .s (((((v1.getD 0 d0).ll).getD ((v1.getD 2 d0).ii).toNat []).getD 3 d0).ss), .b (((((v1.getD 0 d0).ll).getD ((v1.getD 2 d0).ii).toNat []).getD 4 d0).bb), .i (((((v1.getD 0 d0).ll).getD ((v1.getD 2 d0).ii).toNat []).getD 5 d0).ii), .s (((((v1.getD 0 d0).ll).getD ((v1.getD 2 d0).ii).toNat []).getD 6 d0).ss), .sl (((((v1.getD 0 d0).ll).getD ((v1.getD 2 d0).ii).toNat []).getD 7 d0).ll), .sl (((((v1.getD 0 d0).ll).getD ((v1.getD 2 d0).ii).toNat []).getD 8 d0).ll), .sl (((((v1.getD 0 d0).ll).getD ((v1.getD 2 d0).ii).toNat []).getD 9 d0).ll), .s (((((v1.getD 1 d0).ll).getD ((v1.getD 2 d0).ii).toNat []).getD 0 d0).ss), .s (((((v1.getD 1 d0).ll).getD ((v1.getD 2 d0).ii).toNat []).getD 1 d0).ss), .s (((((v1.getD 1 d0).ll).getD ((v1.getD 2 d0).ii).toNat []).getD 2 d0).ss), .s (((((v1.getD 1 d0).ll).getD ((v1.getD 2 d0).ii).toNat []).getD 3 d0).ss), .b (((((v1.getD 1 d0).ll).getD ((v1.getD 2 d0).ii).toNat []).getD 4 d0).bb), .i (((((v1.getD 1 d0).ll).getD ((v1.getD 2 d0).ii).toNat []).getD 5 d0).ii), .s (((((v1.getD 1 d0).ll).getD ((v1.getD 2 d0).ii).toNat []).getD 6 d0).ss), .sl (((((v1.getD 1 d0).ll).getD ((v1.getD 2 d0).ii).toNat []).getD 7 d0).ll), .sl (((((v1.getD 1 d0).ll).getD ((v1.getD 2 d0).ii).toNat []).getD 8 d0).ll), .sl (((((v1.getD 1 d0).ll).getD ((v1.getD 2 d0).ii).toNat []).getD 9 d0).ll)]).bindR fun r2 =>
 if (!((r2.getD 0 d0).bb)) = true then
 .ret [.b false]
 else
 .norm [.sl ((v1.getD 0 d0).ll), .sl ((v1.getD 1 d0).ll), .i ((v1.getD 2 d0).ii)]
 else
 .fail
 else
 .fail) 1 fun v3 =>
 .norm [.sl ((v3.getD 0 d0).ll), .sl ((v3.getD 1 d0).ll), .i (IntKind.i64.wrap ((v3.getD 2 d0).ii + (1 : Int)))]
 else
 .ex 0 []
noncomputable def E_laws_eqInDefS (a : List DC) : Out :=
 if ((((a.getD 0 d0).ll).length : Int) != (((a.getD 1 d0).ll).length : Int)) = true then
 .ret [.b false]
 else
 Out.andThenB (Loop E_laws_eqInDefSL1 [.sl ((a.getD 0 d0).ll), .sl ((a.getD 1 d0).ll), .i (0 : Int)]) 0 fun v4 =>
 .ret [.b true]
theorem eq_laws_eqInDefS a : r_laws_eqInDefS a = E_laws_eqInDefS a := (Run_eq cfg 12 _ a).trans (by kernel_rfl)
noncomputable def E_laws_eqEnumDefSL1 : List DC → Out := fun v1 =>
 if (decide ((v1.getD 2 d0).ii < (((v1.getD 0 d0).ll).length : Int))) = true then
 Out.andThenB (if 129 = 129 ∧ 0 ≤ (v1.getD 2 d0).ii ∧ (v1.getD 2 d0).ii < (((v1.getD 0 d0).ll).length : Int) then
 if 129 = 129 ∧ 0 ≤ (v1.getD 2 d0).ii ∧ (v1.getD 2 d0).ii < (((v1.getD 1 d0).ll).length : Int) then
 (r_laws_eqEnumDef [.s (((((v1.getD 0 d0).ll).getD ((v1.getD 2 d0).ii).toNat []).getD 0 d0).ss), .s (((((v1.getD 0 d0).ll).getD ((v1.getD 2 d0).ii).toNat []).getD 1 d0).ss), .sl (((((v1.getD 0 d0).ll).getD ((v1.getD 2 d0).ii).toNat []).getD 2 d0).ll), .s (((((v1.getD 1 d0).ll).getD ((v1.getD 2 d0).ii).toNat []).getD 0 d0).ss), .s (((((v1.getD 1 d0).ll).getD ((v1.getD 2 d0).ii).toNat []).getD 1 d0).ss), .sl (((((v1.getD 1 d0).ll).getD ((v1.getD 2 d0).ii).toNat []).getD 2 d0).ll)]).bindR fun r2 =>
 if (!((r2.getD 0 d0).bb)) = true then
 .ret [.b false]
 else
 .norm [.sl ((v1.getD 0 d0).ll), .sl ((v1.getD 1 d0).ll), .i ((v1.getD 2 d0).ii)]
 else
 .fail
 else
 .fail) 1 fun v3 =>
 .norm [.sl ((v3.getD 0 d0).ll), .sl ((v3.getD 1 d0).ll), .i (IntKind.i64.wrap ((v3.getD 2 d0).ii + (1 : Int)))]
 else
 .ex 0 []
noncomputable def E_laws_eqEnumDefS (a : List DC) : Out :=
 if ((((a.getD 0 d0).ll).length : Int) != (((a.getD 1 d0).ll).length : Int)) = true then
 .ret [.b false]
 else
 Out.andThenB (Loop E_laws_eqEnumDefSL1 [.sl ((a.getD 0 d0).ll), .sl ((a.getD 1 d0).ll), .i (0 : Int)]) 0 fun v4 =>
 .ret [.b true]
theorem eq_laws_eqEnumDefS a : r_laws_eqEnumDefS a = E_laws_eqEnumDefS a := (Run_eq cfg 74 _ a).trans (by kernel_rfl)
noncomputable def E_laws_eqRootSL1 : List DC → Out := fun v1 =>
 if (decide ((v1.getD 2 d0).ii < (((v1.getD 0 d0).ll).length : Int))) = true then
 Out.andThenB (if 131 = 131 ∧ 0 ≤ (v1.getD 2 d0).ii ∧ (v1.getD 2 d0).ii < (((v1.getD 0 d0).ll).length : Int) then
 if 131 = 131 ∧ 0 ≤ (v1.getD 2 d0).ii ∧ (v1.getD 2 d0).ii < (((v1.getD 1 d0).ll).length : Int) then
 (r_laws_eqRoot [.i (((((v1.getD 0 d0).ll).getD ((v1.getD 2 d0).ii).toNat []).getD 0 d0).ii), .s (((((v1.getD 0 d0).ll).getD ((v1.getD 2 d0).ii).toNat []).getD 1 d0).ss), .i (((((v1.getD 1 d0).ll).getD ((v1.getD 2 d0).ii).toNat []).getD 0 d0).ii), .s (((((v1.getD 1 d0).ll).getD ((v1.getD 2 d0).ii).toNat []).getD 1 d0).ss)]).bindR fun r2 =>
 if (!((r2.getD 0 d0).bb)) = true then
 .ret [.b false]
 else
 .norm [.sl ((v1.getD 0 d0).ll), .sl ((v1.getD 1 d0).ll), .i ((v1.getD 2 d0).ii)]
 else
 .fail
 else
 .fail) 1 fun v3 =>
 .norm [.sl ((v3.getD 0 d0).ll), .sl ((v3.getD 1 d0).ll), .i (IntKind.i64.wrap ((v3.getD 2 d0).ii + (1 : Int)))]
 else
 .ex 0 []
noncomputable def E_laws_eqRootS (a : List DC) : Out :=
 if ((((a.getD 0 d0).ll).length : Int) != (((a.getD 1 d0).ll).length : Int)) = true then
 .ret [.b false]
 else
 Out.andThenB (Loop E_laws_eqRootSL1 [.sl ((a.getD 0 d0).ll), .sl ((a.getD 1 d0).ll), .i (0 : Int)]) 0 fun v4 =>
 .ret [.b true]
theorem eq_laws_eqRootS a : r_laws_eqRootS a = E_laws_eqRootS a := (Run_eq cfg 75 _ a).trans (by kernel_rfl)
noncomputable def E_laws_eqDirSL1 : List DC → Out := fun v1 =>
 if (decide ((v1.getD 2 d0).ii < (((v1.getD 0 d0).ll).length : Int))) = true then
 Out.andThenB (if 122 = 122 ∧ 0 ≤ (v1.getD 2 d0).ii ∧ (v1.getD 2 d0).ii < (((v1.getD 0 d0).ll).length : Int) then
 if 122 = 122 ∧ 0 ≤ (v1.getD 2 d0).ii ∧ (v1.getD 2 d0).ii < (((v1.getD 1 d0).ll).length : Int) then
 (r_laws_eqDir [.s (((((v1.getD 0 d0).ll).getD ((v1.getD 2 d0).ii).toNat []).getD 0 d0).ss), .sl (((((v1.getD 0 d0).ll).getD ((v1.getD 2 d0).ii).toNat []).getD 1 d0).ll), .s (((((v1.getD 1 d0).ll).getD ((v1.getD 2 d0).ii).toNat []).getD 0 d0).ss), .sl (((((v1.getD 1 d0).ll).getD ((v1.getD 2 d0).ii).toNat []).getD 1 d0).ll)]).bindR fun r2 =>
 if (!((r2.getD 0 d0).bb)) = true then
 .ret [.b false]
 else
 .norm [.sl ((v1.getD 0 d0).ll), .sl ((v1.getD 1 d0).ll), .i ((v1.getD 2 d0).ii)]
 else
 .fail
 else
 .fail) 1 fun v3 =>
 .norm [.sl ((v3.getD 0 d0).ll), .sl ((v3.getD 1 d0).ll), .i (IntKind.i64.wrap ((v3.getD 2 d0).ii + (1 : Int)))]
 else
 .ex 0 []
noncomputable def E_laws_eqDirS (a : List DC) : Out :=
 if ((((a.getD 0 d0).ll).length : Int) != (((a.getD 1 d0).ll).length : Int)) = true then
 .ret [.b false]
 else
 Out.andThenB (Loop E_laws_eqDirSL1 [.sl ((a.getD 0 d0).ll), .sl ((a.getD 1 d0).ll), .i (0 : Int)]) 0 fun v4 =>
 .ret [.b true]
theorem eq_laws_eqDirS a : r_laws_eqDirS a = E_laws_eqDirS a := (Run_eq cfg 76 _ a).trans (by kernel_rfl)
noncomputable def E_laws_heldStringSL1 : List DC → Out := fun v1 =>
 if (decide ((v1.getD 2 d0).ii < (((v1.getD 0 d0).ll).length : Int))) = true then
 Out.andThenB (if 9 = 9 ∧ 0 ≤ (v1.getD 2 d0).ii ∧ (v1.getD 2 d0).ii < (((v1.getD 0 d0).ll).length : Int) then
 (r_laws_markText [.i ((v1.getD 1 d0).ii)]).bindR fun r2 =>
 if (!(((((v1.getD 0 d0).ll).getD ((v1.getD 2 d0).ii).toNat []).getD 0 d0).ss == (r2.getD 0 d0).ss)) = true then
 .ret [.i (-1 : Int)]
 else
 .norm [.sl ((v1.getD 0 d0).ll), .i (IntKind.i64.wrap ((v1.getD 1 d0).ii + (1 : Int))), .i ((v1.getD 2 d0).ii)]
 else
 .fail) 1 fun v3 =>
 .norm [.sl ((v3.getD 0 d0).ll), .i ((v3.getD 1 d0).ii), .i (IntKind.i64.wrap ((v3.getD 2 d0).ii + (1 : Int)))]
 else
 .ex 0 [.i ((v1.getD 1 d0).ii)]
noncomputable def E_laws_heldStringS (a : List DC) : Out :=
 Out.andThenB (Loop E_laws_heldStringSL1 [.sl ((a.getD 0 d0).ll), .i ((a.getD 1 d0).ii), .i (0 : Int)]) 0 fun v4 =>
 .ret [.i ((v4.getD 0 d0).ii)]
theorem eq_laws_heldStringS a : r_laws_heldStringS a = E_laws_heldStringS a := (Run_eq cfg 15 _ a).trans (by kernel_rfl)
noncomputable def E_laws_heldFieldDefSL1 : List DC → Out := fun v1 =>
 if (decide ((v1.getD 2 d0).ii < (((v1.getD 0 d0).ll).length : Int))) = true then
 Out.andThenB (if 127 = 127 ∧ 0 ≤ (v1.getD 2 d0).ii ∧ (v1.getD 2 d0).ii < (((v1.getD 0 d0).ll).length : Int) then
 (r_laws_markText [.i ((v1.getD 1 d0).ii)]).bindR fun r2 =>
 if (!(((((v1.getD 0 d0).ll).getD ((v1.getD 2 d0).ii).toNat []).getD 0 d0).ss == (r2.getD 0 d0).ss)) = true then
 .ret [.i (-1 : Int)]
 else
 if 127 = 127 ∧ 0 ≤ (v1.getD 2 d0).ii ∧ (v1.getD 2 d0).ii < (((v1.getD 0 d0).ll).length : Int) then
 (r_laws_markText [.i (IntKind.i64.wrap ((v1.getD 1 d0).ii + (1 : Int)))]).bindR fun r3 =>
 if (!(((((v1.getD 0 d0).ll).getD ((v1.getD 2 d0).ii).toNat []).getD 1 d0).ss == (r3.getD 0 d0).ss)) = true then
 .ret [.i (-1 : Int)]
 else
 if 127 = 127 ∧ 0 ≤ (v1.getD 2 d0).ii ∧ (v1.getD 2 d0).ii < (((v1.getD 0 d0).ll).length : Int) then
 (r_laws_heldInDefS [.sl (((((v1.getD 0 d0).ll).getD ((v1.getD 2 d0).ii).toNat []).getD 2 d0).ll), .i (IntKind.i64.wrap ((IntKind.i64.wrap ((v1.getD 1 d0).ii + (1 : Int))) + (1 : Int)))]).bindR fun r4 =>
 if (decide ((r4.getD 0 d0).ii < (0 : Int))) = true then
 .ret [.i (-1 : Int)]
 else
 if 127 = 127 ∧ 0 ≤ (v1.getD 2 d0).ii ∧ (v1.getD 2 d0).ii < (((v1.getD 0 d0).ll).length : Int) then
 (r_laws_markText [.i ((r4.getD 0 d0).ii)]).bindR fun r5 =>
 if (!(((((v1.getD 0 d0).ll).getD ((v1.getD 2 d0).ii).toNat []).getD 3 d0).ss == (r5.getD 0 d0).ss)) = true then
 .ret [.i (-1 : Int)]
 else
 if 127 = 127 ∧ 0 ≤ (v1.getD 2 d0).ii ∧ (v1.getD 2 d0).ii < (((v1.getD 0 d0).ll).length : Int) then
 (r_laws_markText [.i (IntKind.i64.wrap ((r4.getD 0 d0).ii + (1 : Int)))]).bindR fun r6 =>
 if (!(((((v1.getD 0 d0).ll).getD ((v1.getD 2 d0).ii).toNat []).getD 4 d0).ss == (r6.getD 0 d0).ss)) = true then
 .ret [.i (-1 : Int)]
 else
 if 127 = 127 ∧ 0 ≤ (v1.getD 2 d0).ii ∧ (v1.getD 2 d0).ii < (((v1.getD 0 d0).ll).length : Int) then
 (r_laws_heldDirS [.sl (((((v1.getD 0 d0).ll).getD ((v1.getD 2 d0).ii).toNat []).getD 5 d0).ll), .i (IntKind.i64.wrap ((IntKind.i64.wrap ((r4.getD 0 d0).ii + (1 : Int))) + (1 : Int)))]).bindR fun r7 =>
 if (decide ((r7.getD 0 d0).ii < (0 : Int))) = true then
 .ret [.i (-1 : Int)]
 else
 .norm [.sl ((v1.getD 0 d0).ll), .i ((r7.getD 0 d0).ii), .i ((v1.getD 2 d0).ii)]
 else
 .fail
 else
 .fail
 else
 .fail
 else
 .fail
 else
 .fail
 else
 .fail) 1 fun v8 =>
 .norm [.sl ((v8.getD 0 d0).ll), .i ((v8.getD 1 d0).ii), .i (IntKind.i64.wrap ((v8.getD 2 d0).ii + (1 : Int)))]
 else
 .ex 0 [.i ((v1.getD 1 d0).ii)]
noncomputable def E_laws_heldFieldDefS (a : List DC) : Out :=
 Out.andThenB (Loop E_laws_heldFieldDefSL1 [.sl ((a.getD 0 d0).ll), .i ((a.getD 1 d0).ii), .i (0 : Int)]) 0 fun v9 =>
 .ret [.i ((v9.getD 0 d0).ii)]
theorem eq_laws_heldFieldDefS a : r_laws_heldFieldDefS a = E_laws_heldFieldDefS a := (Run_eq cfg 58 _ a).trans (by kernel_rfl)
noncomputable def E_laws_heldInDefSL1 : List DC → Out := fun v1 =>
 if (decide ((v1.getD 2 d0).ii < (((v1.getD 0 d0).ll).length : Int))) = true then
 Out.andThenB (if 83 = 83 ∧ 0 ≤ (v1.getD 2 d0).ii ∧ (v1.getD 2 d0).ii < (((v1.getD 0 d0).ll).length : Int) then
 (r_laws_markText [.i ((v1.getD 1 d0).ii)]).bindR fun r2 =>
 if (!(((((v1.getD 0 d0).ll).getD ((v1.getD 2 d0).ii).toNat []).getD 0 d0).ss == (r2.getD 0 d0).ss)) = true then
 .ret [.i (-1 : Int)]
 else
 if 83 = 83 ∧ 0 ≤ (v1.getD 2 d0).ii ∧ (v1.getD 2 d0).ii < (((v1.getD 0 d0).ll).length : Int) then
 (r_laws_markText [.i (IntKind.i64.wrap ((v1.getD 1 d0).ii + (1 : Int)))]).bindR fun r3 =>
 if (!(((((v1.getD 0 d0).ll).getD ((v1.getD 2 d0).ii).toNat []).getD 1 d0).ss == (r3.getD 0 d0).ss)) = true then
 .ret [.i (-1 : Int)]
 else
 if 83 = 83 ∧ 0 ≤ (v1.getD 2 d0).ii ∧ (v1.getD 2 d0).ii < (((v1.getD 0 d0).ll).length : Int) then
 (r_laws_markText [.i (IntKind.i64.wrap ((IntKind.i64.wrap ((v1.getD 1 d0).ii + (1 : Int))) + (1 : Int)))]).bindR fun r4 =>
 if (!(((((v1.getD 0 d0).ll).getD ((v1.getD 2 d0).ii).toNat []).getD 2 d0).ss == (r4.getD 0 d0).ss)) = true then
 .ret [.i (-1 : Int)]
 else
 if 83 = 83 ∧ 0 ≤ (v1.getD 2 d0).ii ∧ (v1.getD 2 d0).ii < (((v1.getD 0 d0).ll).length : Int) then
 (r_laws_markText [.i (IntKind.i64.wrap ((IntKind.i64.wrap ((IntKind.i64.wrap ((v1.getD 1 d0).ii + (1 : Int))) + (1 : Int))) + (1 : Int)))]).bindR fun r5 =>
 if (!(((((v1.getD 0 d0).ll).getD ((v1.getD 2 d0).ii).toNat []).getD 3 d0).ss == (r5.getD 0 d0).ss)) = true then
 .ret [.i (-1 : Int)]
 else
 if 83 = 83 ∧ 0 ≤ (v1.getD 2 d0).ii ∧ (v1.getD 2 d0).ii < (((v1.getD 0 d0).ll).length : Int) then
 if (3 : Int) = 0 then
 .fail
 else
 if (!(((((v1.getD 0 d0).ll).getD ((v1.getD 2 d0).ii).toNat []).getD 4 d0).bb == (((IntKind.i64.wrap ((IntKind.i64.wrap ((IntKind.i64.wrap ((IntKind.i64.wrap ((v1.getD 1 d0).ii + (1 : Int))) + (1 : Int))) + (1 : Int))) + (1 : Int))).tmod (3 : Int)) == (0 : Int)))) = true then
 .ret [.i (-1 : Int)]
 else
 if 83 = 83 ∧ 0 ≤ (v1.getD 2 d0).ii ∧ (v1.getD 2 d0).ii < (((v1.getD 0 d0).ll).length : Int) then
 if (((((v1.getD 0 d0).ll).getD ((v1.getD 2 d0).ii).toNat []).getD 5 d0).ii != (IntKind.i64.wrap ((IntKind.i64.wrap ((IntKind.i64.wrap ((IntKind.i64.wrap ((IntKind.i64.wrap ((v1.getD 1 d0).ii + (1 : Int))) + (1 : Int))) + (1 : Int))) + (1 : Int))) + (1 : Int)))) = true then
 .ret [.i (-1 : Int)]
 else
 if 83 = 83 ∧ 0 ≤ (v1.getD 2 d0).ii ∧ (v1.getD 2 d0).ii < (((v1.getD 0 d0).ll).length : Int) then
 (r_laws_markText [.i (IntKind.i64.wrap ((IntKind.i64.wrap ((IntKind.i64.wrap ((IntKind.i64.wrap ((IntKind.i64.wrap ((IntKind.i64.wrap ((v1.getD 1 d0).ii + (1 : Int))) + (1 : Int))) + (1 : Int))) + (1 : Int))) + (1 : Int))) + (1 : Int)))]).bindR fun r6 =>
 if (!(((((v1.getD 0 d0).ll).getD ((v1.getD 2 d0).ii).toNat []).getD 6 d0).ss == (r6.getD 0 d0).ss)) = true then
 .ret [.i (-1 : Int)]
 else
 if 83 = 83 ∧ 0 ≤ (v1.getD 2 d0).ii ∧ (v1.getD 2 d0).ii < (((v1.getD 0 d0).ll).length : Int) then
 (r_laws_heldValueS [.sl (((((v1.getD 0 d0).ll).getD ((v1.getD 2 d0).ii).toNat []).getD 7 d0).ll), .i (IntKind.i64.wrap ((IntKind.i64.wrap ((IntKind.i64.wrap ((IntKind.i64.wrap ((IntKind.i64.wrap ((IntKind.i64.wrap ((IntKind.i64.wrap ((v1.getD 1 d0).ii + (1 : Int))) + (1 : Int))) + (1 : Int))) + (1 : Int))) + (1 : Int))) + (1 : Int))) + (1 : Int)))]).bindR fun r7 =>
 if (decide ((r7.getD 0 d0).ii < (0 : Int))) = true then
 .ret [.i (-1 : Int)]
 else
 if 83 = 83 ∧ 0 ≤ (v1.getD 2 d0).ii ∧ (v1.getD 2 d0).ii < (((v1.getD 0 d0).ll).length : Int) then
 (r_laws_heldStringS [.sl (((((v1.getD 0 d0).ll).getD ((v1.getD 2 d0).ii).toNat []).getD 8 d0).ll), .i ((r7.getD 0 d0).ii)]).bindR fun r8 =>
 if (decide ((r8.getD 0 d0).ii < (0 : Int))) = true then
 .ret [.i (-1 : Int)]
 else
 if 83 = 83 ∧ 0 ≤ (v1.getD 2 d0).ii ∧ (v1.getD 2 d0).ii < (((v1.getD 0 d0).ll).length : Int) then
 (r_laws_heldDirS [.sl (((((v1.getD 0 d0).ll).getD ((v1.getD 2 d0).ii).toNat []).getD 9 d0).ll), .i ((r8.getD 0 d0).ii)]).bindR fun r9 =>
 if (decide ((r9.getD 0 d0).ii < (0 : Int))) = true then
 .ret [.i (-1 : Int)]
 else
 .norm [.sl ((v1.getD 0 d0).ll), .i ((r9.getD 0 d0).ii), .i ((v1.getD 2 d0).ii)]
 else
 .fail
 else
 .fail
 else
 .fail
 else
 .fail
 else
 .fail
 else
 .fail
 else
 .fail
 else
 .fail
 else
 .fail
 else
 .fail) 1 fun v10 =>
 .norm [.sl ((v10.getD 0 d0).ll), .i ((v10.getD 1 d0).ii), .i (IntKind.i64.wrap ((v10.getD 2 d0).ii + (1 : Int)))]
 else
 .ex 0 [.i ((v1.getD 1 d0).ii)]
noncomputable def E_laws_heldInDefS (a : List DC) : Out :=
 Out.andThenB (Loop E_laws_heldInDefSL1 [.sl ((a.getD 0 d0).ll), .i ((a.getD 1 d0).ii), .i (0 : Int)]) 0 fun v11 =>
 .ret [.i ((v11.getD 0 d0).ii)]
theorem eq_laws_heldInDefS a : r_laws_heldInDefS a = E_laws_heldInDefS a := (Run_eq cfg 59 _ a).trans (by kernel_rfl)
noncomputable def E_laws_heldEnumDefSL1 : List DC → Out := fun v1 =>
 if (decide ((v1.getD 2 d0).ii < (((v1.getD 0 d0).ll).length : Int))) = true then
 Out.andThenB (if 129 = 129 ∧ 0 ≤ (v1.getD 2 d0).ii ∧ (v1.getD 2 d0).ii < (((v1.getD 0 d0).ll).length : Int) then
 (r_laws_markText [.i ((v1.getD 1 d0).ii)]).bindR fun r2 =>
 if (!(((((v1.getD 0 d0).ll).getD ((v1.getD 2 d0).ii).toNat []).getD 0 d0).ss == (r2.getD 0 d0).ss)) = true then
 .ret [.i (-1 : Int)]
 else
 if 129 = 129 ∧ 0 ≤ (v1.getD 2 d0).ii ∧ (v1.getD 2 d0).ii < (((v1.getD 0 d0).ll).length : Int) then
 (r_laws_markText [.i (IntKind.i64.wrap ((v1.getD 1 d0).ii + (1 : Int)))]).bindR fun r3 =>
 if (!(((((v1.getD 0 d0).ll).getD ((v1.getD 2 d0).ii).toNat []).getD 1 d0).ss == (r3.getD 0 d0).ss)) = true then
 .ret [.i (-1 : Int)]
 else
 if 129 = 129 ∧ 0 ≤ (v1.getD 2 d0).ii ∧ (v1.getD 2 d0).ii < (((v1.getD 0 d0).ll).length : Int) then
 (r_laws_heldDirS [.sl (((((v1.getD 0 d0).ll).getD ((v1.getD 2 d0).ii).toNat []).getD 2 d0).ll), .i (IntKind.i64.wrap ((IntKind.i64.wrap ((v1.getD 1 d0).ii + (1 : Int))) + (1 : Int)))]).bindR fun r4 =>
 if (decide ((r4.getD 0 d0).ii < (0 : Int))) = true then
 .ret [.i (-1 : Int)]
 else
 .norm [.sl ((v1.getD 0 d0).ll), .i ((r4.getD 0 d0).ii), .i ((v1.getD 2 d0).ii)]
 else
 .fail
 else
 .fail
 else
 .fail) 1 fun v5 =>
 .norm [.sl ((v5.getD 0 d0).ll), .i ((v5.getD 1 d0).ii), .i (IntKind.i64.wrap ((v5.getD 2 d0).ii + (1 : Int)))]
 else
 .ex 0 [.i ((v1.getD 1 d0).ii)]
noncomputable def E_laws_heldEnumDefS (a : List DC) : Out :=
 Out.andThenB (Loop E_laws_heldEnumDefSL1 [.sl ((a.getD 0 d0).ll), .i ((a.getD 1 d0).ii), .i (0 : Int)]) 0 fun v6 =>
 .ret [.i ((v6.getD 0 d0).ii)]
theorem eq_laws_heldEnumDefS a : r_laws_heldEnumDefS a = E_laws_heldEnumDefS a := (Run_eq cfg 60 _ a).trans (by kernel_rfl)
noncomputable def E_laws_heldRootSL1 : List DC → Out := fun v1 =>
 if (decide ((v1.getD 2 d0).ii < (((v1.getD 0 d0).ll).length : Int))) = true then
 Out.andThenB (if 131 = 131 ∧ 0 ≤ (v1.getD 2 d0).ii ∧ (v1.getD 2 d0).ii < (((v1.getD 0 d0).ll).length : Int) then
 if (((((v1.getD 0 d0).ll).getD ((v1.getD 2 d0).ii).toNat []).getD 0 d0).ii != (v1.getD 1 d0).ii) = true then
 .ret [.i (-1 : Int)]
 else
 if 131 = 131 ∧ 0 ≤ (v1.getD 2 d0).ii ∧ (v1.getD 2 d0).ii < (((v1.getD 0 d0).ll).length : Int) then
 (r_laws_markText [.i (IntKind.i64.wrap ((v1.getD 1 d0).ii + (1 : Int)))]).bindR fun r2 =>
 if (!(((((v1.getD 0 d0).ll).getD ((v1.getD 2 d0).ii).toNat []).getD 1 d0).ss == (r2.getD 0 d0).ss)) = true then
 .ret [.i (-1 : Int)]
 else
 .norm [.sl ((v1.getD 0 d0).ll), .i (IntKind.i64.wrap ((IntKind.i64.wrap ((v1.getD 1 d0).ii + (1 : Int))) + (1 : Int))), .i ((v1.getD 2 d0).ii)]
 else
 .fail
 else
 .fail) 1 fun v3 =>
 .norm [.sl ((v3.getD 0 d0).ll), .i ((v3.getD 1 d0).ii), .i (IntKind.i64.wrap ((v3.getD 2 d0).ii + (1 : Int)))]
 else
 .ex 0 [.i ((v1.getD 1 d0).ii)]
noncomputable def E_laws_heldRootS (a : List DC) : Out :=
 Out.andThenB (Loop E_laws_heldRootSL1 [.sl ((a.getD 0 d0).ll), .i ((a.getD 1 d0).ii), .i (0 : Int)]) 0 fun v4 =>
 .ret [.i ((v4.getD 0 d0).ii)]
theorem eq_laws_heldRootS a : r_laws_heldRootS a = E_laws_heldRootS a := (Run_eq cfg 61 _ a).trans (by kernel_rfl)
noncomputable def E_laws_heldDirSL1 : List DC → Out := fun v1 =>
 if (decide ((v1.getD 2 d0).ii < (((v1.getD 0 d0).ll).length : Int))) = true then
 Out.andThenB (if 122 = 122 ∧ 0 ≤ (v1.getD 2 d0).ii ∧ (v1.getD 2 d0).ii < (((v1.getD 0 d0).ll).length : Int) then
 (r_laws_markText [.i ((v1.getD 1 d0).ii)]).bindR fun r2 =>
 if (!(((((v1.getD 0 d0).ll).getD ((v1.getD 2 d0).ii).toNat []).getD 0 d0).ss == (r2.getD 0 d0).ss)) = true then
 .ret [.i (-1 : Int)]
 else
 if 122 = 122 ∧ 0 ≤ (v1.getD 2 d0).ii ∧ (v1.getD 2 d0).ii < (((v1.getD 0 d0).ll).length : Int) then
 (r_laws_heldArgS [.sl (((((v1.getD 0 d0).ll).getD ((v1.getD 2 d0).ii).toNat []).getD 1 d0).ll), .i (IntKind.i64.wrap ((v1.getD 1 d0).ii + (1 : Int)))]).bindR fun r3 =>
 if (decide ((r3.getD 0 d0).ii < (0 : Int))) = true then
 .ret [.i (-1 : Int)]
 else
 .norm [.sl ((v1.getD 0 d0).ll), .i ((r3.getD 0 d0).ii), .i ((v1.getD 2 d0).ii)]
 else
 .fail
 else
 .fail) 1 fun v4 =>
 .norm [.sl ((v4.getD 0 d0).ll), .i ((v4.getD 1 d0).ii), .i (IntKind.i64.wrap ((v4.getD 2 d0).ii + (1 : Int)))]
 else
 .ex 0 [.i ((v1.getD 1 d0).ii)]
noncomputable def E_laws_heldDirS (a : List DC) : Out :=
 Out.andThenB (Loop E_laws_heldDirSL1 [.sl ((a.getD 0 d0).ll), .i ((a.getD 1 d0).ii), .i (0 : Int)]) 0 fun v5 =>
 .ret [.i ((v5.getD 0 d0).ii)]
theorem eq_laws_heldDirS a : r_laws_heldDirS a = E_laws_heldDirS a := (Run_eq cfg 62 _ a).trans (by kernel_rfl)
noncomputable def E_laws_szFieldDef (a : List DC) : Out :=
 if (decide ((IntKind.i64.wrap ((a.getD 6 d0).ii - (((a.getD 0 d0).ss).length : Int))) < (0 : Int))) = true then
 .ret [.i (-1 : Int)]
 else
 if (decide ((IntKind.i64.wrap ((IntKind.i64.wrap ((a.getD 6 d0).ii - (((a.getD 0 d0).ss).length : Int))) - (((a.getD 1 d0).ss).length : Int))) < (0 : Int))) = true then
 .ret [.i (-1 : Int)]
 else
 (r_laws_szInDefS [.sl ((a.getD 2 d0).ll), .i (IntKind.i64.wrap ((IntKind.i64.wrap ((a.getD 6 d0).ii - (((a.getD 0 d0).ss).length : Int))) - (((a.getD 1 d0).ss).length : Int)))]).bindR fun r1 =>
 if (decide ((r1.getD 0 d0).ii < (0 : Int))) = true then
 .ret [.i (-1 : Int)]
 else
 (r_laws_szType [.s ((a.getD 3 d0).ss), .s ((a.getD 4 d0).ss), .i ((r1.getD 0 d0).ii)]).bindR fun r2 =>
 if (decide ((r2.getD 0 d0).ii < (0 : Int))) = true then
 .ret [.i (-1 : Int)]
 else
 (r_laws_szDirS [.sl ((a.getD 5 d0).ll), .i ((r2.getD 0 d0).ii)]).bindR fun r3 =>
 if (decide ((r3.getD 0 d0).ii < (0 : Int))) = true then
 .ret [.i (-1 : Int)]
 else
 .ret [.i ((r3.getD 0 d0).ii)]
theorem eq_laws_szFieldDef a : r_laws_szFieldDef a = E_laws_szFieldDef a := (Run_eq cfg 90 _ a).trans (by kernel_rfl)
noncomputable def E_laws_szInDef (a : List DC) : Out :=
 if (decide ((IntKind.i64.wrap ((a.getD 10 d0).ii - (((a.getD 0 d0).ss).length : Int))) < (0 : Int))) = true then
 .ret [.i (-1 : Int)]
 else
 if (decide ((IntKind.i64.wrap ((IntKind.i64.wrap ((a.getD 10 d0).ii - (((a.getD 0 d0).ss).length : Int))) - (((a.getD 1 d0).ss).length : Int))) < (0 : Int))) = true then
 .ret [.i (-1 : Int)]
 else
 (r_laws_szType [.s ((a.getD 2 d0).ss), .s ((a.getD 3 d0).ss), .i (IntKind.i64.wrap ((IntKind.i64.wrap ((a.getD 10 d0).ii - (((a.getD 0 d0).ss).length : Int))) - (((a.getD 1 d0).ss).length : Int)))]).bindR fun r1 =>
 if (decide ((r1.getD 0 d0).ii < (0 : Int))) = true then
 .ret [.i (-1 : Int)]
 else
 (r_laws_szValue [.i ((a.getD 5 d0).ii), .s ((a.getD 6 d0).ss), .sl ((a.getD 7 d0).ll), .sl ((a.getD 8 d0).ll), .i ((r1.getD 0 d0).ii)]).bindR fun r2 =>
 if (decide ((r2.getD 0 d0).ii < (0 : Int))) = true then
 .ret [.i (-1 : Int)]
 else
 (r_laws_szDirS [.sl ((a.getD 9 d0).ll), .i ((r2.getD 0 d0).ii)]).bindR fun r3 =>
 if (decide ((r3.getD 0 d0).ii < (0 : Int))) = true then
 .ret [.i (-1 : Int)]
 else
 .ret [.i ((r3.getD 0 d0).ii)]
theorem eq_laws_szInDef a : r_laws_szInDef a = E_laws_szInDef a := (Run_eq cfg 35 _ a).trans (by kernel_rfl)
noncomputable def E_laws_szEnumDef (a : List DC) : Out :=
 if (decide ((IntKind.i64.wrap ((a.getD 3 d0).ii - (((a.getD 0 d0).ss).length : Int))) < (0 : Int))) = true then
 .ret [.i (-1 : Int)]
 else
 if (decide ((IntKind.i64.wrap ((IntKind.i64.wrap ((a.getD 3 d0).ii - (((a.getD 0 d0).ss).length : Int))) - (((a.getD 1 d0).ss).length : Int))) < (0 : Int))) = true then
 .ret [.i (-1 : Int)]
 else
 (r_laws_szDirS [.sl ((a.getD 2 d0).ll), .i (IntKind.i64.wrap ((IntKind.i64.wrap ((a.getD 3 d0).ii - (((a.getD 0 d0).ss).length : Int))) - (((a.getD 1 d0).ss).length : Int)))]).bindR fun r1 =>
 if (decide ((r1.getD 0 d0).ii < (0 : Int))) = true then
 .ret [.i (-1 : Int)]
 else
 .ret [.i ((r1.getD 0 d0).ii)]
theorem eq_laws_szEnumDef a : r_laws_szEnumDef a = E_laws_szEnumDef a := (Run_eq cfg 91 _ a).trans (by kernel_rfl)
noncomputable def E_laws_szRoot (a : List DC) : Out :=
 if (decide ((IntKind.i64.wrap ((a.getD 2 d0).ii - (((a.getD 1 d0).ss).length : Int))) < (0 : Int))) = true then
 .ret [.i (-1 : Int)]
 else
 .ret [.i (IntKind.i64.wrap ((a.getD 2 d0).ii - (((a.getD 1 d0).ss).length : Int)))]
theorem eq_laws_szRoot a : r_laws_szRoot a = E_laws_szRoot a := (Run_eq cfg 92 _ a).trans (by kernel_rfl)
noncomputable def E_laws_szDir (a : List DC) : Out :=
 if (decide ((IntKind.i64.wrap ((a.getD 2 d0).ii - (((a.getD 0 d0).ss).length : Int))) < (0 : Int))) = true then
 .ret [.i (-1 : Int)]
 else
 (r_laws_szArgS [.sl ((a.getD 1 d0).ll), .i (IntKind.i64.wrap ((a.getD 2 d0).ii - (((a.getD 0 d0).ss).length : Int)))]).bindR fun r1 =>
 if (decide ((r1.getD 0 d0).ii < (0 : Int))) = true then
 .ret [.i (-1 : Int)]
 else
 .ret [.i ((r1.getD 0 d0).ii)]
theorem eq_laws_szDir a : r_laws_szDir a = E_laws_szDir a := (Run_eq cfg 93 _ a).trans (by kernel_rfl)
noncomputable def E_laws_toFieldDef (a : List DC) : Out :=
 (r_laws_toInDefS [.sl ((a.getD 2 d0).ll)]).bindR fun r1 =>
 (r_laws_toType [.s ((a.getD 3 d0).ss), .s ((a.getD 4 d0).ss)]).bindR fun r2 =>
 (r_laws_toDirS [.sl ((a.getD 5 d0).ll)]).bindR fun r3 =>
 .ret [.s ((a.getD 0 d0).ss), .s ((a.getD 1 d0).ss), .sl ((r1.getD 0 d0).ll), .s ((r2.getD 0 d0).ss), .s ((r2.getD 1 d0).ss), .sl ((r3.getD 0 d0).ll)]
theorem eq_laws_toFieldDef a : r_laws_toFieldDef a = E_laws_toFieldDef a := (Run_eq cfg 98 _ a).trans (by kernel_rfl)
noncomputable def E_laws_toInDef (a : List DC) : Out :=
 (r_laws_toType [.s ((a.getD 2 d0).ss), .s ((a.getD 3 d0).ss)]).bindR fun r1 =>
 (r_laws_toValue [.i ((a.getD 5 d0).ii), .s ((a.getD 6 d0).ss), .sl ((a.getD 7 d0).ll), .sl ((a.getD 8 d0).ll)]).bindR fun r2 =>
 (r_laws_toDirS [.sl ((a.getD 9 d0).ll)]).bindR fun r3 =>
 .ret [.s ((a.getD 0 d0).ss), .s ((a.getD 1 d0).ss), .s ((r1.getD 0 d0).ss), .s ((r1.getD 1 d0).ss), .b ((a.getD 4 d0).bb), .i ((r2.getD 0 d0).ii), .s ((r2.getD 1 d0).ss), .sl ((r2.getD 2 d0).ll), .sl ((r2.getD 3 d0).ll), .sl ((r3.getD 0 d0).ll)]
theorem eq_laws_toInDef a : r_laws_toInDef a = E_laws_toInDef a := (Run_eq cfg 37 _ a).trans (by kernel_rfl)
noncomputable def E_laws_toEnumDef (a : List DC) : Out :=
 (r_laws_toDirS [.sl ((a.getD 2 d0).ll)]).bindR fun r1 =>
 .ret [.s ((a.getD 0 d0).ss), .s ((a.getD 1 d0).ss), .sl ((r1.getD 0 d0).ll)]
theorem eq_laws_toEnumDef a : r_laws_toEnumDef a = E_laws_toEnumDef a := (Run_eq cfg 99 _ a).trans (by kernel_rfl)
noncomputable def E_laws_toRoot (a : List DC) : Out :=
 .ret [.i ((a.getD 0 d0).ii), .s ((a.getD 1 d0).ss)]
theorem eq_laws_toRoot a : r_laws_toRoot a = E_laws_toRoot a := (Run_eq cfg 100 _ a).trans (by kernel_rfl)
noncomputable def E_laws_toDir (a : List DC) : Out :=
 (r_laws_toArgS [.sl ((a.getD 1 d0).ll)]).bindR fun r1 =>
 .ret [.s ((a.getD 0 d0).ss), .sl ((r1.getD 0 d0).ll)]
theorem eq_laws_toDir a : r_laws_toDir a = E_laws_toDir a := (Run_eq cfg 101 _ a).trans (by kernel_rfl)
noncomputable def E_spec_l13CopyFieldsL1 : List DC → Out := fun v1 =>
 if (decide ((v1.getD 2 d0).ii < (((v1.getD 0 d0).ll).length : Int))) = true then
 Out.andThenB (if 127 = 127 ∧ 0 ≤ (v1.getD 2 d0).ii ∧ (v1.getD 2 d0).ii < (((v1.getD 0 d0).ll).length : Int) then
 (r_spec_l13CopyIns [.sl (((((v1.getD 0 d0).ll).getD ((v1.getD 2 d0).ii).toNat []).getD 2 d0).ll)]).bindR fun r2 =>
 (r_spec_l10Dirs [.sl (((((v1.getD 0 d0).ll).getD ((v1.getD 2 d0).ii).toNat []).getD 5 d0).ll)]).bindR fun r3 =>
 if ((v1.getD 1 d0).ll).length + [[DC.s (((((v1.getD 0 d0).ll).getD ((v1.getD 2 d0).ii).toNat []).getD 0 d0).ss), DC.s (((((v1.getD 0 d0).ll).getD ((v1.getD 2 d0).ii).toNat []).getD 1 d0).ss), DC.sl ((r2.getD 0 d0).ll), DC.s (((((v1.getD 0 d0).ll).getD ((v1.getD 2 d0).ii).toNat []).getD 3 d0).ss), DC.s (((((v1.getD 0 d0).ll).getD ((v1.getD 2 d0).ii).toNat []).getD 4 d0).ss), DC.sl ((r3.getD 0 d0).ll)]].length < LIM ∧ 58 = 58 then
 .norm [.sl ((v1.getD 0 d0).ll), .sl (((v1.getD 1 d0).ll) ++ [[DC.s (((((v1.getD 0 d0).ll).getD ((v1.getD 2 d0).ii).toNat []).getD 0 d0).ss), DC.s (((((v1.getD 0 d0).ll).getD ((v1.getD 2 d0).ii).toNat []).getD 1 d0).ss), DC.sl ((r2.getD 0 d0).ll), DC.s (((((v1.getD 0 d0).ll).getD ((v1.getD 2 d0).ii).toNat []).getD 3 d0).ss), DC.s (((((v1.getD 0 d0).ll).getD ((v1.getD 2 d0).ii).toNat []).getD 4 d0).ss), DC.sl ((r3.getD 0 d0).ll)]]), .i ((v1.getD 2 d0).ii)]
 else
 .fail
 else
 .fail) 1 fun v4 =>
 .norm [.sl ((v4.getD 0 d0).ll), .sl ((v4.getD 1 d0).ll), .i (IntKind.i64.wrap ((v4.getD 2 d0).ii + (1 : Int)))]
 else
 .ex 0 [.sl ((v1.getD 1 d0).ll)]
noncomputable def E_spec_l13CopyFields (a : List DC) : Out :=
 Out.andThenB (Loop E_spec_l13CopyFieldsL1 [.sl ((a.getD 0 d0).ll), .sl [], .i (0 : Int)]) 0 fun v5 =>
 .ret [.sl ((v5.getD 0 d0).ll)]
theorem eq_spec_l13CopyFields a : r_spec_l13CopyFields a = E_spec_l13CopyFields a := (Run_eq cfg 94 _ a).trans (by kernel_rfl)
noncomputable def E_spec_l13CopyInsL1 : List DC → Out := fun v1 =>
 if (decide ((v1.getD 2 d0).ii < (((v1.getD 0 d0).ll).length : Int))) = true then
 Out.andThenB (if 83 = 83 ∧ 0 ≤ (v1.getD 2 d0).ii ∧ (v1.getD 2 d0).ii < (((v1.getD 0 d0).ll).length : Int) then
 (r_spec_l07Copy [.i (((((v1.getD 0 d0).ll).getD ((v1.getD 2 d0).ii).toNat []).getD 5 d0).ii), .s (((((v1.getD 0 d0).ll).getD ((v1.getD 2 d0).ii).toNat []).getD 6 d0).ss), .sl (((((v1.getD 0 d0).ll).getD ((v1.getD 2 d0).ii).toNat []).getD 7 d0).ll), .sl (((((v1.getD 0 d0).ll).getD ((v1.getD 2 d0).ii).toNat []).getD 8 d0).ll)]).bindR fun r2 =>
 (r_spec_l10Dirs [.sl (((((v1.getD 0 d0).ll).getD ((v1.getD 2 d0).ii).toNat []).getD 9 d0).ll)]).bindR fun r3 =>
 if ((v1.getD 1 d0).ll).length + [[DC.s (((((v1.getD 0 d0).ll).getD ((v1.getD 2 d0).ii).toNat []).getD 0 d0).ss), DC.s (((((v1.getD 0 d0).ll).getD ((v1.getD 2 d0).ii).toNat []).getD 1 d0).ss), DC.s (((((v1.getD 0 d0).ll).getD ((v1.getD 2 d0).ii).toNat []).getD 2 d0).ss), DC.s (((((v1.getD 0 d0).ll).getD ((v1.getD 2 d0).ii).toNat []).getD 3 d0).ss), DC.b (((((v1.getD 0 d0).ll).getD ((v1.getD 2 d0).ii).toNat []).getD 4 d0).bb), DC.i ((r2.getD 0 d0).ii), DC.s ((r2.getD 1 d0).ss), DC.sl ((r2.getD 2 d0).ll), DC.sl ((r2.getD 3 d0).ll), DC.sl ((r3.getD 0 d0).ll)]].length < LIM ∧ 26 = 26 then
 .norm [.sl ((v1.getD 0 d0).ll), .sl (((v1.getD 1 d0).ll) ++ [[DC.s (((((v1.getD 0 d0).ll).getD ((v1.getD 2 d0).ii).toNat []).getD 0 d0).ss), DC.s (((((v1.getD 0 d0).ll).getD ((v1.getD 2 d0).ii).toNat []).getD 1 d0).ss), DC.s (((((v1.getD 0 d0).ll).getD ((v1.getD 2 d0).ii).toNat []).getD 2 d0).ss), DC.s (((((v1.getD 0 d0).ll).getD ((v1.getD 2 d0).ii).toNat []).getD 3 d0).ss), DC.b (((((v1.getD 0 d0).ll).getD ((v1.getD 2 d0).ii).toNat []).getD 4 d0).bb), DC.i ((r2.getD 0 d0).ii), DC.s ((r2.getD 1 d0).ss), DC.sl ((r2.getD 2 d0).ll), DC.sl ((r2.getD 3 d0).ll), DC.sl ((r3.getD 0 d0).ll)]]), .i ((v1.getD 2 d0).ii)]
 else
 .fail
 else
 .fail) 1 fun v4 =>
 .norm [.sl ((v4.getD 0 d0).ll), .sl ((v4.getD 1 d0).ll), .i (IntKind.i64.wrap ((v4.getD 2 d0).ii + (1 : Int)))]
 else
 .ex 0 [.sl ((v1.getD 1 d0).ll)]
noncomputable def E_spec_l13CopyIns (a : List DC) : Out :=
 Out.andThenB (Loop E_spec_l13CopyInsL1 [.sl ((a.getD 0 d0).ll), .sl [], .i (0 : Int)]) 0 fun v5 =>
 .ret [.sl ((v5.getD 0 d0).ll)]
theorem eq_spec_l13CopyIns a : r_spec_l13CopyIns a = E_spec_l13CopyIns a := (Run_eq cfg 95 _ a).trans (by kernel_rfl)
noncomputable def E_spec_l13CopyValuesL1 : List DC → Out := fun v1 =>
 if (decide ((v1.getD 2 d0).ii < (((v1.getD 0 d0).ll).length : Int))) = true then
 Out.andThenB (if 129 = 129 ∧ 0 ≤ (v1.getD 2 d0).ii ∧ (v1.getD 2 d0).ii < (((v1.getD 0 d0).ll).length : Int) then
 (r_spec_l10Dirs [.sl (((((v1.getD 0 d0).ll).getD ((v1.getD 2 d0).ii).toNat []).getD 2 d0).ll)]).bindR fun r2 =>
 if ((v1.getD 1 d0).ll).length + [[DC.s (((((v1.getD 0 d0).ll).getD ((v1.getD 2 d0).ii).toNat []).getD 0 d0).ss), DC.s (((((v1.getD 0 d0).ll).getD ((v1.getD 2 d0).ii).toNat []).getD 1 d0).ss), DC.sl ((r2.getD 0 d0).ll)]].length < LIM ∧ 59 = 59 then
 .norm [.sl ((v1.getD 0 d0).ll), .sl (((v1.getD 1 d0).ll) ++ [[DC.s (((((v1.getD 0 d0).ll).getD ((v1.getD 2 d0).ii).toNat []).getD 0 d0).ss), DC.s (((((v1.getD 0 d0).ll).getD ((v1.getD 2 d0).ii).toNat []).getD 1 d0).ss), DC.sl ((r2.getD 0 d0).ll)]]), .i ((v1.getD 2 d0).ii)]
 else
 .fail
 else
 .fail) 1 fun v3 =>
 .norm [.sl ((v3.getD 0 d0).ll), .sl ((v3.getD 1 d0).ll), .i (IntKind.i64.wrap ((v3.getD 2 d0).ii + (1 : Int)))]
 else
 .ex 0 [.sl ((v1.getD 1 d0).ll)]
noncomputable def E_spec_l13CopyValues (a : List DC) : Out :=
 Out.andThenB (Loop E_spec_l13CopyValuesL1 [.sl ((a.getD 0 d0).ll), .sl [], .i (0 : Int)]) 0 fun v4 =>
 .ret [.sl ((v4.getD 0 d0).ll)]
theorem eq_spec_l13CopyValues a : r_spec_l13CopyValues a = E_spec_l13CopyValues a := (Run_eq cfg 96 _ a).trans (by kernel_rfl)
noncomputable def E_spec_l10DirsL1 : List DC → Out := fun v1 =>
 if (decide ((v1.getD 2 d0).ii < (((v1.getD 0 d0).ll).length : Int))) = true then
 Out.andThenB (if 122 = 122 ∧ 0 ≤ (v1.getD 2 d0).ii ∧ (v1.getD 2 d0).ii < (((v1.getD 0 d0).ll).length : Int) then
 if 122 = 122 ∧ 0 ≤ (v1.getD 2 d0).ii ∧ (v1.getD 2 d0).ii < (((v1.getD 0 d0).ll).length : Int) then
 (r_spec_l10Args [.sl (((((v1.getD 0 d0).ll).getD ((v1.getD 2 d0).ii).toNat []).getD 1 d0).ll)]).bindR fun r2 =>
 if ((v1.getD 1 d0).ll).length + [[DC.s (((((v1.getD 0 d0).ll).getD ((v1.getD 2 d0).ii).toNat []).getD 0 d0).ss), DC.sl ((r2.getD 0 d0).ll)]].length < LIM ∧ 61 = 61 then
 .norm [.sl ((v1.getD 0 d0).ll), .sl (((v1.getD 1 d0).ll) ++ [[DC.s (((((v1.getD 0 d0).ll).getD ((v1.getD 2 d0).ii).toNat []).getD 0 d0).ss), DC.sl ((r2.getD 0 d0).ll)]]), .i ((v1.getD 2 d0).ii)]
 else
 .fail
 else
 .fail
 else
 .fail) 1 fun v3 =>
 .norm [.sl ((v3.getD 0 d0).ll), .sl ((v3.getD 1 d0).ll), .i (IntKind.i64.wrap ((v3.getD 2 d0).ii + (1 : Int)))]
 else
 .ex 0 [.sl ((v1.getD 1 d0).ll)]
noncomputable def E_spec_l10Dirs (a : List DC) : Out :=
 Out.andThenB (Loop E_spec_l10DirsL1 [.sl ((a.getD 0 d0).ll), .sl [], .i (0 : Int)]) 0 fun v4 =>
 .ret [.sl ((v4.getD 0 d0).ll)]
theorem eq_spec_l10Dirs a : r_spec_l10Dirs a = E_spec_l10Dirs a := (Run_eq cfg 97 _ a).trans (by kernel_rfl)
noncomputable def E_slices_Clone_string (a : List DC) : Out := match primC 9 h_slices_Clone_string a with | some r => .ret r | none => .fail
theorem eq_slices_Clone_string a : r_slices_Clone_string a = E_slices_Clone_string a := (Run_eq cfg 87 h_slices_Clone_string a).trans (by kernel_rfl)
theorem at_slices_Clone_string (l : List (List DC)) (hl : l.length ≤ 4194304) : r_slices_Clone_string [.sl l] = .ret [.sl l] := by
  have h : l.length < LIM := by unfold LIM; omega
  have k : primC 9 h_slices_Clone_string [.sl l] = some [.sl l] := by
    show (if 9 = 9 ∧ l.length < LIM then some [DC.sl l] else none) = _
    rw [if_pos ⟨rfl, h⟩]
  rw [eq_slices_Clone_string, E_slices_Clone_string, k]
noncomputable def E_impl_cloneFieldsL1 : List DC → Out := fun v5 =>
 if (decide ((v5.getD 3 d0).ii < (v5.getD 2 d0).ii)) = true then
 Out.andThenB (if 127 = 127 ∧ 0 ≤ (v5.getD 3 d0).ii ∧ (v5.getD 3 d0).ii < (((v5.getD 1 d0).ll).length : Int) then
 (r_impl_cloneIns [.sl (((((v5.getD 1 d0).ll).getD ((v5.getD 3 d0).ii).toNat []).getD 2 d0).ll)]).bindR fun r6 =>
 (r_impl_cloneDirs [.sl (((((v5.getD 1 d0).ll).getD ((v5.getD 3 d0).ii).toNat []).getD 5 d0).ll)]).bindR fun r7 =>
 if ((v5.getD 0 d0).ll).length + [[DC.s (((((v5.getD 1 d0).ll).getD ((v5.getD 3 d0).ii).toNat []).getD 0 d0).ss), DC.s (((((v5.getD 1 d0).ll).getD ((v5.getD 3 d0).ii).toNat []).getD 1 d0).ss), DC.sl ((r6.getD 0 d0).ll), DC.s (((((v5.getD 1 d0).ll).getD ((v5.getD 3 d0).ii).toNat []).getD 3 d0).ss), DC.s (((((v5.getD 1 d0).ll).getD ((v5.getD 3 d0).ii).toNat []).getD 4 d0).ss), DC.sl ((r7.getD 0 d0).ll)]].length < LIM ∧ 58 = 58 then
 .norm [.sl (((v5.getD 0 d0).ll) ++ [[DC.s (((((v5.getD 1 d0).ll).getD ((v5.getD 3 d0).ii).toNat []).getD 0 d0).ss), DC.s (((((v5.getD 1 d0).ll).getD ((v5.getD 3 d0).ii).toNat []).getD 1 d0).ss), DC.sl ((r6.getD 0 d0).ll), DC.s (((((v5.getD 1 d0).ll).getD ((v5.getD 3 d0).ii).toNat []).getD 3 d0).ss), DC.s (((((v5.getD 1 d0).ll).getD ((v5.getD 3 d0).ii).toNat []).getD 4 d0).ss), DC.sl ((r7.getD 0 d0).ll)]]), .sl ((v5.getD 1 d0).ll), .i ((v5.getD 2 d0).ii), .i ((v5.getD 3 d0).ii)]
 else
 .fail
 else
 .fail) 1 fun v8 =>
 .norm [.sl ((v8.getD 0 d0).ll), .sl ((v8.getD 1 d0).ll), .i ((v8.getD 2 d0).ii), .i (IntKind.i64.wrap ((v8.getD 3 d0).ii + (1 : Int)))]
 else
 .ex 0 [.sl ((v5.getD 0 d0).ll)]
noncomputable def E_impl_cloneFields (a : List DC) : Out :=
 Out.andThenB (Loop E_impl_cloneFieldsL1 [.sl [], .sl ((a.getD 0 d0).ll), .i (((a.getD 0 d0).ll).length : Int), .i (0 : Int)]) 0 fun v9 =>
 .ret [.sl ((v9.getD 0 d0).ll)]
theorem eq_impl_cloneFields a : r_impl_cloneFields a = E_impl_cloneFields a := (Run_eq cfg 102 _ a).trans (by kernel_rfl)
noncomputable def E_impl_cloneInsL1 : List DC → Out := fun v5 =>
 if (decide ((v5.getD 3 d0).ii < (v5.getD 2 d0).ii)) = true then
 Out.andThenB (if 83 = 83 ∧ 0 ≤ (v5.getD 3 d0).ii ∧ (v5.getD 3 d0).ii < (((v5.getD 1 d0).ll).length : Int) then
 (r_impl_cloneValue [.i (((((v5.getD 1 d0).ll).getD ((v5.getD 3 d0).ii).toNat []).getD 5 d0).ii), .s (((((v5.getD 1 d0).ll).getD ((v5.getD 3 d0).ii).toNat []).getD 6 d0).ss), .sl (((((v5.getD 1 d0).ll).getD ((v5.getD 3 d0).ii).toNat []).getD 7 d0).ll), .sl (((((v5.getD 1 d0).ll).getD ((v5.getD 3 d0).ii).toNat []).getD 8 d0).ll)]).bindR fun r6 =>
 (r_impl_cloneDirs [.sl (((((v5.getD 1 d0).ll).getD ((v5.getD 3 d0).ii).toNat []).getD 9 d0).ll)]).bindR fun r7 =>
 if ((v5.getD 0 d0).ll).length + [[DC.s (((((v5.getD 1 d0).ll).getD ((v5.getD 3 d0).ii).toNat []).getD 0 d0).ss), DC.s (((((v5.getD 1 d0).ll).getD ((v5.getD 3 d0).ii).toNat []).getD 1 d0).ss), DC.s (((((v5.getD 1 d0).ll).getD ((v5.getD 3 d0).ii).toNat []).getD 2 d0).ss), DC.s (((((v5.getD 1 d0).ll).getD ((v5.getD 3 d0).ii).toNat []).getD 3 d0).ss), DC.b (((((v5.getD 1 d0).ll).getD ((v5.getD 3 d0).ii).toNat []).getD 4 d0).bb), DC.i ((r6.getD 0 d0).ii), DC.s ((r6.getD 1 d0).ss), DC.sl ((r6.getD 2 d0).ll), DC.sl ((r6.getD 3 d0).ll), DC.sl ((r7.getD 0 d0).ll)]].length < LIM ∧ 26 = 26 then
 .norm [.sl (((v5.getD 0 d0).ll) ++ [[DC.s (((((v5.getD 1 d0).ll).getD ((v5.getD 3 d0).ii).toNat []).getD 0 d0).ss), DC.s (((((v5.getD 1 d0).ll).getD ((v5.getD 3 d0).ii).toNat []).getD 1 d0).ss), DC.s (((((v5.getD 1 d0).ll).getD ((v5.getD 3 d0).ii).toNat []).getD 2 d0).ss), DC.s (((((v5.getD 1 d0).ll).getD ((v5.getD 3 d0).ii).toNat []).getD 3 d0).ss), DC.b (((((v5.getD 1 d0).ll).getD ((v5.getD 3 d0).ii).toNat []).getD 4 d0).bb), DC.i ((r6.getD 0 d0).ii), DC.s ((r6.getD 1 d0).ss), DC.sl ((r6.getD 2 d0).ll), DC.sl ((r6.getD 3 d0).ll), DC.sl ((r7.getD 0 d0).ll)]]), .sl ((v5.getD 1 d0).ll), .i ((v5.getD 2 d0).ii), .i ((v5.getD 3 d0).ii)]
 else
 .fail
 else
 .fail) 1 fun v8 =>
 .norm [.sl ((v8.getD 0 d0).ll), .sl ((v8.getD 1 d0).ll), .i ((v8.getD 2 d0).ii), .i (IntKind.i64.wrap ((v8.getD 3 d0).ii + (1 : Int)))]
 else
 .ex 0 [.sl ((v5.getD 0 d0).ll)]
noncomputable def E_impl_cloneIns (a : List DC) : Out :=
 Out.andThenB (Loop E_impl_cloneInsL1 [.sl [], .sl ((a.getD 0 d0).ll), .i (((a.getD 0 d0).ll).length : Int), .i (0 : Int)]) 0 fun v9 =>
 .ret [.sl ((v9.getD 0 d0).ll)]
theorem eq_impl_cloneIns a : r_impl_cloneIns a = E_impl_cloneIns a := (Run_eq cfg 103 _ a).trans (by kernel_rfl)
noncomputable def E_impl_cloneEnumsL1 : List DC → Out := fun v4 =>
 if (decide ((v4.getD 3 d0).ii < (v4.getD 2 d0).ii)) = true then
 Out.andThenB (if 129 = 129 ∧ 0 ≤ (v4.getD 3 d0).ii ∧ (v4.getD 3 d0).ii < (((v4.getD 1 d0).ll).length : Int) then
 (r_impl_cloneDirs [.sl (((((v4.getD 1 d0).ll).getD ((v4.getD 3 d0).ii).toNat []).getD 2 d0).ll)]).bindR fun r5 =>
 if ((v4.getD 0 d0).ll).length + [[DC.s (((((v4.getD 1 d0).ll).getD ((v4.getD 3 d0).ii).toNat []).getD 0 d0).ss), DC.s (((((v4.getD 1 d0).ll).getD ((v4.getD 3 d0).ii).toNat []).getD 1 d0).ss), DC.sl ((r5.getD 0 d0).ll)]].length < LIM ∧ 59 = 59 then
 .norm [.sl (((v4.getD 0 d0).ll) ++ [[DC.s (((((v4.getD 1 d0).ll).getD ((v4.getD 3 d0).ii).toNat []).getD 0 d0).ss), DC.s (((((v4.getD 1 d0).ll).getD ((v4.getD 3 d0).ii).toNat []).getD 1 d0).ss), DC.sl ((r5.getD 0 d0).ll)]]), .sl ((v4.getD 1 d0).ll), .i ((v4.getD 2 d0).ii), .i ((v4.getD 3 d0).ii)]
 else
 .fail
 else
 .fail) 1 fun v6 =>
 .norm [.sl ((v6.getD 0 d0).ll), .sl ((v6.getD 1 d0).ll), .i ((v6.getD 2 d0).ii), .i (IntKind.i64.wrap ((v6.getD 3 d0).ii + (1 : Int)))]
 else
 .ex 0 [.sl ((v4.getD 0 d0).ll)]
noncomputable def E_impl_cloneEnums (a : List DC) : Out :=
 Out.andThenB (Loop E_impl_cloneEnumsL1 [.sl [], .sl ((a.getD 0 d0).ll), .i (((a.getD 0 d0).ll).length : Int), .i (0 : Int)]) 0 fun v7 =>
 .ret [.sl ((v7.getD 0 d0).ll)]
theorem eq_impl_cloneEnums a : r_impl_cloneEnums a = E_impl_cloneEnums a := (Run_eq cfg 104 _ a).trans (by kernel_rfl)
noncomputable def E_slices_Clone_impl_Root (a : List DC) : Out := match primC 131 h_slices_Clone_impl_Root a with | some r => .ret r | none => .fail
theorem eq_slices_Clone_impl_Root a : r_slices_Clone_impl_Root a = E_slices_Clone_impl_Root a := (Run_eq cfg 105 h_slices_Clone_impl_Root a).trans (by kernel_rfl)
theorem at_slices_Clone_impl_Root (l : List (List DC)) (hl : l.length ≤ 4194304) : r_slices_Clone_impl_Root [.sl l] = .ret [.sl l] := by
  have h : l.length < LIM := by unfold LIM; omega
  have k : primC 131 h_slices_Clone_impl_Root [.sl l] = some [.sl l] := by
    show (if 131 = 131 ∧ l.length < LIM then some [DC.sl l] else none) = _
    rw [if_pos ⟨rfl, h⟩]
  rw [eq_slices_Clone_impl_Root, E_slices_Clone_impl_Root, k]
noncomputable def E_impl_cloneDirsL1 : List DC → Out := fun v4 =>
 if (decide ((v4.getD 3 d0).ii < (v4.getD 2 d0).ii)) = true then
 Out.andThenB (if 122 = 122 ∧ 0 ≤ (v4.getD 3 d0).ii ∧ (v4.getD 3 d0).ii < (((v4.getD 1 d0).ll).length : Int) then
 (r_impl_cloneArgs [.sl (((((v4.getD 1 d0).ll).getD ((v4.getD 3 d0).ii).toNat []).getD 1 d0).ll)]).bindR fun r5 =>
 if ((v4.getD 0 d0).ll).length + [[DC.s (((((v4.getD 1 d0).ll).getD ((v4.getD 3 d0).ii).toNat []).getD 0 d0).ss), DC.sl ((r5.getD 0 d0).ll)]].length < LIM ∧ 61 = 61 then
 .norm [.sl (((v4.getD 0 d0).ll) ++ [[DC.s (((((v4.getD 1 d0).ll).getD ((v4.getD 3 d0).ii).toNat []).getD 0 d0).ss), DC.sl ((r5.getD 0 d0).ll)]]), .sl ((v4.getD 1 d0).ll), .i ((v4.getD 2 d0).ii), .i ((v4.getD 3 d0).ii)]
 else
 .fail
 else
 .fail) 1 fun v6 =>
 .norm [.sl ((v6.getD 0 d0).ll), .sl ((v6.getD 1 d0).ll), .i ((v6.getD 2 d0).ii), .i (IntKind.i64.wrap ((v6.getD 3 d0).ii + (1 : Int)))]
 else
 .ex 0 [.sl ((v4.getD 0 d0).ll)]
noncomputable def E_impl_cloneDirs (a : List DC) : Out :=
 Out.andThenB (Loop E_impl_cloneDirsL1 [.sl [], .sl ((a.getD 0 d0).ll), .i (((a.getD 0 d0).ll).length : Int), .i (0 : Int)]) 0 fun v7 =>
 .ret [.sl ((v7.getD 0 d0).ll)]
theorem eq_impl_cloneDirs a : r_impl_cloneDirs a = E_impl_cloneDirs a := (Run_eq cfg 106 _ a).trans (by kernel_rfl)
noncomputable def E_laws_eqFieldDef (a : List DC) : Out :=
 if (!((a.getD 0 d0).ss == (a.getD 6 d0).ss)) = true then
 .ret [.b false]
 else
 if (!((a.getD 1 d0).ss == (a.getD 7 d0).ss)) = true then
 .ret [.b false]
 else
 (r_laws_eqInDefS [.sl ((a.getD 2 d0).ll), .sl ((a.getD 8 d0).ll)]).bindR fun r1 =>
 if (!((r1.getD 0 d0).bb)) = true then
 .ret [.b false]
 else
 (r_laws_eqType [.s ((a.getD 3 d0).ss), .s ((a.getD 4 d0).ss), .s ((a.getD 9 d0).ss), .s ((a.getD 10 d0).ss)]).bindR fun r2 =>
 if (!((r2.getD 0 d0).bb)) = true then
 .ret [.b false]
 else
 (r_laws_eqDirS [.sl ((a.getD 5 d0).ll), .sl ((a.getD 11 d0).ll)]).bindR fun r3 =>
 if (!((r3.getD 0 d0).bb)) = true then
 .ret [.b false]
 else
 .ret [.b true]
theorem eq_laws_eqFieldDef a : r_laws_eqFieldDef a = E_laws_eqFieldDef a := (Run_eq cfg 107 _ a).trans (by kernel_rfl)
noncomputable def E_laws_eqInDef (a : List DC) : Out :=
 if (!((a.getD 0 d0).ss == (a.getD 10 d0).ss)) = true then
 .ret [.b false]
 else
 if (!((a.getD 1 d0).ss == (a.getD 11 d0).ss)) = true then
 .ret [.b false]
 else
 (r_laws_eqType [.s ((a.getD 2 d0).ss), .s ((a.getD 3 d0).ss), .s ((a.getD 12 d0).ss), .s ((a.getD 13 d0).ss)]).bindR fun r1 =>
 if (!((r1.getD 0 d0).bb)) = true then
 .ret [.b false]
 else
 if (!((a.getD 4 d0).bb == (a.getD 14 d0).bb)) = true then
 .ret [.b false]
 else
 (r_laws_eqValue [.i ((a.getD 5 d0).ii), .s ((a.getD 6 d0).ss), .sl ((a.getD 7 d0).ll), .sl ((a.getD 8 d0).ll), .i ((a.getD 15 d0).ii), .s ((a.getD 16 d0).ss), .sl ((a.getD 17 d0).ll), .sl ((a.getD 18 d0).ll)]).bindR fun r2 =>
 if (!((r2.getD 0 d0).bb)) = true then
 .ret [.b false]
 else
 (r_laws_eqDirS [.sl ((a.getD 9 d0).ll), .sl ((a.getD 19 d0).ll)]).bindR fun r3 =>
 if (!((r3.getD 0 d0).bb)) = true then
 .ret [.b false]
 else
 .ret [.b true]
theorem eq_laws_eqInDef a : r_laws_eqInDef a = E_laws_eqInDef a := (Run_eq cfg 39 _ a).trans (by kernel_rfl)
noncomputable def E_laws_eqEnumDef (a : List DC) : Out :=
 if (!((a.getD 0 d0).ss == (a.getD 3 d0).ss)) = true then
 .ret [.b false]
 else
 if (!((a.getD 1 d0).ss == (a.getD 4 d0).ss)) = true then
 .ret [.b false]
 else
 (r_laws_eqDirS [.sl ((a.getD 2 d0).ll), .sl ((a.getD 5 d0).ll)]).bindR fun r1 =>
 if (!((r1.getD 0 d0).bb)) = true then
 .ret [.b false]
 else
 .ret [.b true]
theorem eq_laws_eqEnumDef a : r_laws_eqEnumDef a = E_laws_eqEnumDef a := (Run_eq cfg 108 _ a).trans (by kernel_rfl)
noncomputable def E_laws_eqRoot (a : List DC) : Out :=
 if ((a.getD 0 d0).ii != (a.getD 2 d0).ii) = true then
 .ret [.b false]
 else
 if (!((a.getD 1 d0).ss == (a.getD 3 d0).ss)) = true then
 .ret [.b false]
 else
 .ret [.b true]
theorem eq_laws_eqRoot a : r_laws_eqRoot a = E_laws_eqRoot a := (Run_eq cfg 109 _ a).trans (by kernel_rfl)
noncomputable def E_laws_eqDir (a : List DC) : Out :=
 if (!((a.getD 0 d0).ss == (a.getD 2 d0).ss)) = true then
 .ret [.b false]
 else
 (r_laws_eqArgS [.sl ((a.getD 1 d0).ll), .sl ((a.getD 3 d0).ll)]).bindR fun r1 =>
 if (!((r1.getD 0 d0).bb)) = true then
 .ret [.b false]
 else
 .ret [.b true]
theorem eq_laws_eqDir a : r_laws_eqDir a = E_laws_eqDir a := (Run_eq cfg 110 _ a).trans (by kernel_rfl)
theorem eq_laws_markText a : r_laws_markText a = E_laws_markText a := (Run_eq cfg 40 _ a).trans (by kernel_rfl)
noncomputable def E_laws_heldValueSL1 : List DC → Out := fun v1 =>
 if (decide ((v1.getD 2 d0).ii < (((v1.getD 0 d0).ll).length : Int))) = true then
 Out.andThenB (if 81 = 81 ∧ 0 ≤ (v1.getD 2 d0).ii ∧ (v1.getD 2 d0).ii < (((v1.getD 0 d0).ll).length : Int) then
 if (((((v1.getD 0 d0).ll).getD ((v1.getD 2 d0).ii).toNat []).getD 0 d0).ii != (v1.getD 1 d0).ii) = true then
 .ret [.i (-1 : Int)]
 else
 if 81 = 81 ∧ 0 ≤ (v1.getD 2 d0).ii ∧ (v1.getD 2 d0).ii < (((v1.getD 0 d0).ll).length : Int) then
 (r_laws_markText [.i (IntKind.i64.wrap ((v1.getD 1 d0).ii + (1 : Int)))]).bindR fun r2 =>
 if (!(((((v1.getD 0 d0).ll).getD ((v1.getD 2 d0).ii).toNat []).getD 1 d0).ss == (r2.getD 0 d0).ss)) = true then
 .ret [.i (-1 : Int)]
 else
 if 81 = 81 ∧ 0 ≤ (v1.getD 2 d0).ii ∧ (v1.getD 2 d0).ii < (((v1.getD 0 d0).ll).length : Int) then
 (r_laws_heldValueS [.sl (((((v1.getD 0 d0).ll).getD ((v1.getD 2 d0).ii).toNat []).getD 2 d0).ll), .i (IntKind.i64.wrap ((IntKind.i64.wrap ((v1.getD 1 d0).ii + (1 : Int))) + (1 : Int)))]).bindR fun r3 =>
 if (decide ((r3.getD 0 d0).ii < (0 : Int))) = true then
 .ret [.i (-1 : Int)]
 else
 if 81 = 81 ∧ 0 ≤ (v1.getD 2 d0).ii ∧ (v1.getD 2 d0).ii < (((v1.getD 0 d0).ll).length : Int) then
 (r_laws_heldStringS [.sl (((((v1.getD 0 d0).ll).getD ((v1.getD 2 d0).ii).toNat []).getD 3 d0).ll), .i ((r3.getD 0 d0).ii)]).bindR fun r4 =>
 if (decide ((r4.getD 0 d0).ii < (0 : Int))) = true then
 .ret [.i (-1 : Int)]
 else
 .norm [.sl ((v1.getD 0 d0).ll), .i ((r4.getD 0 d0).ii), .i ((v1.getD 2 d0).ii)]
 else
 .fail
 else
 .fail
 else
 .fail
 else
 .fail) 1 fun v5 =>
 .norm [.sl ((v5.getD 0 d0).ll), .i ((v5.getD 1 d0).ii), .i (IntKind.i64.wrap ((v5.getD 2 d0).ii + (1 : Int)))]
 else
 .ex 0 [.i ((v1.getD 1 d0).ii)]
noncomputable def E_laws_heldValueS (a : List DC) : Out :=
 Out.andThenB (Loop E_laws_heldValueSL1 [.sl ((a.getD 0 d0).ll), .i ((a.getD 1 d0).ii), .i (0 : Int)]) 0 fun v6 =>
 .ret [.i ((v6.getD 0 d0).ii)]
theorem eq_laws_heldValueS a : r_laws_heldValueS a = E_laws_heldValueS a := (Run_eq cfg 88 _ a).trans (by kernel_rfl)
noncomputable def E_laws_heldArgSL1 : List DC → Out := fun v1 =>
 if (decide ((v1.getD 2 d0).ii < (((v1.getD 0 d0).ll).length : Int))) = true then
 Out.andThenB (if 161 = 161 ∧ 0 ≤ (v1.getD 2 d0).ii ∧ (v1.getD 2 d0).ii < (((v1.getD 0 d0).ll).length : Int) then
 (r_laws_markText [.i ((v1.getD 1 d0).ii)]).bindR fun r2 =>
 if (!(((((v1.getD 0 d0).ll).getD ((v1.getD 2 d0).ii).toNat []).getD 0 d0).ss == (r2.getD 0 d0).ss)) = true then
 .ret [.i (-1 : Int)]
 else
 if 161 = 161 ∧ 0 ≤ (v1.getD 2 d0).ii ∧ (v1.getD 2 d0).ii < (((v1.getD 0 d0).ll).length : Int) then
 if (((((v1.getD 0 d0).ll).getD ((v1.getD 2 d0).ii).toNat []).getD 1 d0).ii != (IntKind.i64.wrap ((v1.getD 1 d0).ii + (1 : Int)))) = true then
 .ret [.i (-1 : Int)]
 else
 if 161 = 161 ∧ 0 ≤ (v1.getD 2 d0).ii ∧ (v1.getD 2 d0).ii < (((v1.getD 0 d0).ll).length : Int) then
 (r_laws_markText [.i (IntKind.i64.wrap ((IntKind.i64.wrap ((v1.getD 1 d0).ii + (1 : Int))) + (1 : Int)))]).bindR fun r3 =>
 if (!(((((v1.getD 0 d0).ll).getD ((v1.getD 2 d0).ii).toNat []).getD 2 d0).ss == (r3.getD 0 d0).ss)) = true then
 .ret [.i (-1 : Int)]
 else
 if 161 = 161 ∧ 0 ≤ (v1.getD 2 d0).ii ∧ (v1.getD 2 d0).ii < (((v1.getD 0 d0).ll).length : Int) then
 (r_laws_heldValueS [.sl (((((v1.getD 0 d0).ll).getD ((v1.getD 2 d0).ii).toNat []).getD 3 d0).ll), .i (IntKind.i64.wrap ((IntKind.i64.wrap ((IntKind.i64.wrap ((v1.getD 1 d0).ii + (1 : Int))) + (1 : Int))) + (1 : Int)))]).bindR fun r4 =>
 if (decide ((r4.getD 0 d0).ii < (0 : Int))) = true then
 .ret [.i (-1 : Int)]
 else
 if 161 = 161 ∧ 0 ≤ (v1.getD 2 d0).ii ∧ (v1.getD 2 d0).ii < (((v1.getD 0 d0).ll).length : Int) then
 (r_laws_heldStringS [.sl (((((v1.getD 0 d0).ll).getD ((v1.getD 2 d0).ii).toNat []).getD 4 d0).ll), .i ((r4.getD 0 d0).ii)]).bindR fun r5 =>
 if (decide ((r5.getD 0 d0).ii < (0 : Int))) = true then
 .ret [.i (-1 : Int)]
 else
 .norm [.sl ((v1.getD 0 d0).ll), .i ((r5.getD 0 d0).ii), .i ((v1.getD 2 d0).ii)]
 else
 .fail
 else
 .fail
 else
 .fail
 else
 .fail
 else
 .fail) 1 fun v6 =>
 .norm [.sl ((v6.getD 0 d0).ll), .i ((v6.getD 1 d0).ii), .i (IntKind.i64.wrap ((v6.getD 2 d0).ii + (1 : Int)))]
 else
 .ex 0 [.i ((v1.getD 1 d0).ii)]
noncomputable def E_laws_heldArgS (a : List DC) : Out :=
 Out.andThenB (Loop E_laws_heldArgSL1 [.sl ((a.getD 0 d0).ll), .i ((a.getD 1 d0).ii), .i (0 : Int)]) 0 fun v7 =>
 .ret [.i ((v7.getD 0 d0).ii)]
theorem eq_laws_heldArgS a : r_laws_heldArgS a = E_laws_heldArgS a := (Run_eq cfg 89 _ a).trans (by kernel_rfl)
noncomputable def E_laws_szType (a : List DC) : Out :=
 if (decide ((IntKind.i64.wrap ((a.getD 2 d0).ii - (((a.getD 0 d0).ss).length : Int))) < (0 : Int))) = true then
 .ret [.i (-1 : Int)]
 else
 if (decide ((IntKind.i64.wrap ((IntKind.i64.wrap ((a.getD 2 d0).ii - (((a.getD 0 d0).ss).length : Int))) - (((a.getD 1 d0).ss).length : Int))) < (0 : Int))) = true then
 .ret [.i (-1 : Int)]
 else
 .ret [.i (IntKind.i64.wrap ((IntKind.i64.wrap ((a.getD 2 d0).ii - (((a.getD 0 d0).ss).length : Int))) - (((a.getD 1 d0).ss).length : Int)))]
theorem eq_laws_szType a : r_laws_szType a = E_laws_szType a := (Run_eq cfg 77 _ a).trans (by kernel_rfl)
noncomputable def E_laws_szValue (a : List DC) : Out :=
 if (decide ((IntKind.i64.wrap ((a.getD 4 d0).ii - (((a.getD 1 d0).ss).length : Int))) < (0 : Int))) = true then
 .ret [.i (-1 : Int)]
 else
 (r_laws_szValueS [.sl ((a.getD 2 d0).ll), .i (IntKind.i64.wrap ((a.getD 4 d0).ii - (((a.getD 1 d0).ss).length : Int)))]).bindR fun r1 =>
 if (decide ((r1.getD 0 d0).ii < (0 : Int))) = true then
 .ret [.i (-1 : Int)]
 else
 (r_laws_szStringS [.sl ((a.getD 3 d0).ll), .i ((r1.getD 0 d0).ii)]).bindR fun r2 =>
 if (decide ((r2.getD 0 d0).ii < (0 : Int))) = true then
 .ret [.i (-1 : Int)]
 else
 .ret [.i ((r2.getD 0 d0).ii)]
theorem eq_laws_szValue a : r_laws_szValue a = E_laws_szValue a := (Run_eq cfg 78 _ a).trans (by kernel_rfl)
noncomputable def E_laws_szArgSL1 : List DC → Out := fun v1 =>
 if (decide ((v1.getD 2 d0).ii < (((v1.getD 0 d0).ll).length : Int))) = true then
 Out.andThenB (if 169 = 169 ∧ 0 ≤ (v1.getD 2 d0).ii ∧ (v1.getD 2 d0).ii < (((v1.getD 0 d0).ll).length : Int) then
 (r_laws_szArg [.s (((((v1.getD 0 d0).ll).getD ((v1.getD 2 d0).ii).toNat []).getD 0 d0).ss), .i (((((v1.getD 0 d0).ll).getD ((v1.getD 2 d0).ii).toNat []).getD 1 d0).ii), .s (((((v1.getD 0 d0).ll).getD ((v1.getD 2 d0).ii).toNat []).getD 2 d0).ss), .sl (((((v1.getD 0 d0).ll).getD ((v1.getD 2 d0).ii).toNat []).getD 3 d0).ll), .sl (((((v1.getD 0 d0).ll).getD ((v1.getD 2 d0).ii).toNat []).getD 4 d0).ll), .i ((v1.getD 1 d0).ii)]).bindR fun r2 =>
 if (decide ((r2.getD 0 d0).ii < (0 : Int))) = true then
 .ret [.i (-1 : Int)]
 else
 .norm [.sl ((v1.getD 0 d0).ll), .i ((r2.getD 0 d0).ii), .i ((v1.getD 2 d0).ii)]
 else
 .fail) 1 fun v3 =>
 .norm [.sl ((v3.getD 0 d0).ll), .i ((v3.getD 1 d0).ii), .i (IntKind.i64.wrap ((v3.getD 2 d0).ii + (1 : Int)))]
 else
 .ex 0 [.i ((v1.getD 1 d0).ii)]
noncomputable def E_laws_szArgS (a : List DC) : Out :=
 if (decide ((IntKind.i64.wrap ((a.getD 1 d0).ii - (((a.getD 0 d0).ll).length : Int))) < (0 : Int))) = true then
 .ret [.i (-1 : Int)]
 else
 Out.andThenB (Loop E_laws_szArgSL1 [.sl ((a.getD 0 d0).ll), .i (IntKind.i64.wrap ((a.getD 1 d0).ii - (((a.getD 0 d0).ll).length : Int))), .i (0 : Int)]) 0 fun v4 =>
 .ret [.i ((v4.getD 0 d0).ii)]
theorem eq_laws_szArgS a : r_laws_szArgS a = E_laws_szArgS a := (Run_eq cfg 115 _ a).trans (by kernel_rfl)
noncomputable def E_laws_toType (a : List DC) : Out :=
 .ret [.s ((a.getD 0 d0).ss), .s ((a.getD 1 d0).ss)]
theorem eq_laws_toType a : r_laws_toType a = E_laws_toType a := (Run_eq cfg 79 _ a).trans (by kernel_rfl)
noncomputable def E_laws_toValue (a : List DC) : Out :=
 (r_laws_toValueS [.sl ((a.getD 2 d0).ll)]).bindR fun r1 =>
 (r_laws_toStringS [.sl ((a.getD 3 d0).ll)]).bindR fun r2 =>
 .ret [.i ((a.getD 0 d0).ii), .s ((a.getD 1 d0).ss), .sl ((r1.getD 0 d0).ll), .sl ((r2.getD 0 d0).ll)]
theorem eq_laws_toValue a : r_laws_toValue a = E_laws_toValue a := (Run_eq cfg 80 _ a).trans (by kernel_rfl)
noncomputable def E_laws_toArgSL1 : List DC → Out := fun v1 =>
 if (decide ((v1.getD 2 d0).ii < (((v1.getD 0 d0).ll).length : Int))) = true then
 Out.andThenB (if 169 = 169 ∧ 0 ≤ (v1.getD 2 d0).ii ∧ (v1.getD 2 d0).ii < (((v1.getD 0 d0).ll).length : Int) then
 (r_laws_toArg [.s (((((v1.getD 0 d0).ll).getD ((v1.getD 2 d0).ii).toNat []).getD 0 d0).ss), .i (((((v1.getD 0 d0).ll).getD ((v1.getD 2 d0).ii).toNat []).getD 1 d0).ii), .s (((((v1.getD 0 d0).ll).getD ((v1.getD 2 d0).ii).toNat []).getD 2 d0).ss), .sl (((((v1.getD 0 d0).ll).getD ((v1.getD 2 d0).ii).toNat []).getD 3 d0).ll), .sl (((((v1.getD 0 d0).ll).getD ((v1.getD 2 d0).ii).toNat []).getD 4 d0).ll)]).bindR fun r2 =>
 if 161 = 161 ∧ 0 ≤ (v1.getD 2 d0).ii ∧ (v1.getD 2 d0).ii < (((v1.getD 1 d0).ll).length : Int) then
 .norm [.sl ((v1.getD 0 d0).ll), .sl (((v1.getD 1 d0).ll).set (((v1.getD 2 d0).ii).toNat) (setRunD (((v1.getD 1 d0).ll).getD (((v1.getD 2 d0).ii).toNat) []) 0 [DC.s ((r2.getD 0 d0).ss), DC.i ((r2.getD 1 d0).ii), DC.s ((r2.getD 2 d0).ss), DC.sl ((r2.getD 3 d0).ll), DC.sl ((r2.getD 4 d0).ll)])), .i ((v1.getD 2 d0).ii)]
 else
 .fail
 else
 .fail) 1 fun v3 =>
 .norm [.sl ((v3.getD 0 d0).ll), .sl ((v3.getD 1 d0).ll), .i (IntKind.i64.wrap ((v3.getD 2 d0).ii + (1 : Int)))]
 else
 .ex 0 [.sl ((v1.getD 1 d0).ll)]
noncomputable def E_laws_toArgS (a : List DC) : Out :=
 if 0 ≤ (((a.getD 0 d0).ll).length : Int) ∧ (((a.getD 0 d0).ll).length : Int) < (LIM : Int) ∧ (((a.getD 0 d0).ll).length : Int) = (((a.getD 0 d0).ll).length : Int) ∧ 88 ≤ 1024 ∧ 0 < 5 ∧ dp 161 = false then
 Out.andThenB (Loop E_laws_toArgSL1 [.sl ((a.getD 0 d0).ll), .sl (List.replicate (((a.getD 0 d0).ll).length : Int).toNat [DC.s [], DC.i 0, DC.s [], DC.sl [], DC.sl []]), .i (0 : Int)]) 0 fun v4 =>
 .ret [.sl ((v4.getD 0 d0).ll)]
 else
 .fail
theorem eq_laws_toArgS a : r_laws_toArgS a = E_laws_toArgS a := (Run_eq cfg 118 _ a).trans (by kernel_rfl)
noncomputable def E_spec_l07CopyL1 : List DC → Out := fun v4 =>
 if (decide ((v4.getD 0 d0).ii < (((v4.getD 3 d0).ll).length : Int))) = true then
 Out.andThenB (if 81 = 81 ∧ 0 ≤ (v4.getD 0 d0).ii ∧ (v4.getD 0 d0).ii < (((v4.getD 3 d0).ll).length : Int) then
 (r_spec_l07Copy [.i (((((v4.getD 3 d0).ll).getD ((v4.getD 0 d0).ii).toNat []).getD 0 d0).ii), .s (((((v4.getD 3 d0).ll).getD ((v4.getD 0 d0).ii).toNat []).getD 1 d0).ss), .sl (((((v4.getD 3 d0).ll).getD ((v4.getD 0 d0).ii).toNat []).getD 2 d0).ll), .sl (((((v4.getD 3 d0).ll).getD ((v4.getD 0 d0).ii).toNat []).getD 3 d0).ll)]).bindR fun r5 =>
 if ((v4.getD 9 d0).ll).length + [[DC.i ((r5.getD 0 d0).ii), DC.s ((r5.getD 1 d0).ss), DC.sl ((r5.getD 2 d0).ll), DC.sl ((r5.getD 3 d0).ll)]].length < LIM ∧ 79 = 79 then
 .norm [.i ((v4.getD 0 d0).ii), .i ((v4.getD 1 d0).ii), .s ((v4.getD 2 d0).ss), .sl ((v4.getD 3 d0).ll), .sl ((v4.getD 4 d0).ll), .i ((v4.getD 5 d0).ii), .s ((v4.getD 6 d0).ss), .i ((v4.getD 7 d0).ii), .s ((v4.getD 8 d0).ss), .sl (((v4.getD 9 d0).ll) ++ [[DC.i ((r5.getD 0 d0).ii), DC.s ((r5.getD 1 d0).ss), DC.sl ((r5.getD 2 d0).ll), DC.sl ((r5.getD 3 d0).ll)]]), .sl ((v4.getD 10 d0).ll)]
 else
 .fail
 else
 .fail) 1 fun v6 =>
 .norm [.i (IntKind.i64.wrap ((v6.getD 0 d0).ii + (1 : Int))), .i ((v6.getD 1 d0).ii), .s ((v6.getD 2 d0).ss), .sl ((v6.getD 3 d0).ll), .sl ((v6.getD 4 d0).ll), .i ((v6.getD 5 d0).ii), .s ((v6.getD 6 d0).ss), .i ((v6.getD 7 d0).ii), .s ((v6.getD 8 d0).ss), .sl ((v6.getD 9 d0).ll), .sl ((v6.getD 10 d0).ll)]
 else
 .ex 0 [.i ((v4.getD 5 d0).ii), .s ((v4.getD 6 d0).ss), .i ((v4.getD 7 d0).ii), .s ((v4.getD 8 d0).ss), .sl ((v4.getD 9 d0).ll), .sl ((v4.getD 10 d0).ll)]
noncomputable def E_spec_l07Copy (a : List DC) : Out :=
 if ([] : List (List DC)).length + ((a.getD 3 d0).ll).length < LIM then
 Out.andThenB (Loop E_spec_l07CopyL1 [.i (0 : Int), .i ((a.getD 0 d0).ii), .s ((a.getD 1 d0).ss), .sl ((a.getD 2 d0).ll), .sl ((a.getD 3 d0).ll), .i (0 : Int), .s [], .i ((a.getD 0 d0).ii), .s ((a.getD 1 d0).ss), .sl [], .sl (([] : List (List DC)) ++ ((a.getD 3 d0).ll))]) 0 fun v7 =>
 .ret [.i ((v7.getD 2 d0).ii), .s ((v7.getD 3 d0).ss), .sl ((v7.getD 4 d0).ll), .sl ((v7.getD 5 d0).ll)]
 else
 .fail
theorem eq_spec_l07Copy a : r_spec_l07Copy a = E_spec_l07Copy a := (Run_eq cfg 116 _ a).trans (by kernel_rfl)
noncomputable def E_spec_l10ArgsL1 : List DC → Out := fun v1 =>
 if (decide ((v1.getD 2 d0).ii < (((v1.getD 0 d0).ll).length : Int))) = true then
 Out.andThenB (if 161 = 161 ∧ 0 ≤ (v1.getD 2 d0).ii ∧ (v1.getD 2 d0).ii < (((v1.getD 0 d0).ll).length : Int) then
 if 161 = 161 ∧ 0 ≤ (v1.getD 2 d0).ii ∧ (v1.getD 2 d0).ii < (((v1.getD 0 d0).ll).length : Int) then
 (r_spec_l07Copy [.i (((((v1.getD 0 d0).ll).getD ((v1.getD 2 d0).ii).toNat []).getD 1 d0).ii), .s (((((v1.getD 0 d0).ll).getD ((v1.getD 2 d0).ii).toNat []).getD 2 d0).ss), .sl (((((v1.getD 0 d0).ll).getD ((v1.getD 2 d0).ii).toNat []).getD 3 d0).ll), .sl (((((v1.getD 0 d0).ll).getD ((v1.getD 2 d0).ii).toNat []).getD 4 d0).ll)]).bindR fun r2 =>
 if ((v1.getD 1 d0).ll).length + [[DC.s (((((v1.getD 0 d0).ll).getD ((v1.getD 2 d0).ii).toNat []).getD 0 d0).ss), DC.i ((r2.getD 0 d0).ii), DC.s ((r2.getD 1 d0).ss), DC.sl ((r2.getD 2 d0).ll), DC.sl ((r2.getD 3 d0).ll)]].length < LIM ∧ 120 = 120 then
 .norm [.sl ((v1.getD 0 d0).ll), .sl (((v1.getD 1 d0).ll) ++ [[DC.s (((((v1.getD 0 d0).ll).getD ((v1.getD 2 d0).ii).toNat []).getD 0 d0).ss), DC.i ((r2.getD 0 d0).ii), DC.s ((r2.getD 1 d0).ss), DC.sl ((r2.getD 2 d0).ll), DC.sl ((r2.getD 3 d0).ll)]]), .i ((v1.getD 2 d0).ii)]
 else
 .fail
 else
 .fail
 else
 .fail) 1 fun v3 =>
 .norm [.sl ((v3.getD 0 d0).ll), .sl ((v3.getD 1 d0).ll), .i (IntKind.i64.wrap ((v3.getD 2 d0).ii + (1 : Int)))]
 else
 .ex 0 [.sl ((v1.getD 1 d0).ll)]
noncomputable def E_spec_l10Args (a : List DC) : Out :=
 Out.andThenB (Loop E_spec_l10ArgsL1 [.sl ((a.getD 0 d0).ll), .sl [], .i (0 : Int)]) 0 fun v4 =>
 .ret [.sl ((v4.getD 0 d0).ll)]
theorem eq_spec_l10Args a : r_spec_l10Args a = E_spec_l10Args a := (Run_eq cfg 117 _ a).trans (by kernel_rfl)
noncomputable def E_impl_cloneValueL1 : List DC → Out := fun v5 =>
 if (decide ((v5.getD 2 d0).ii < (v5.getD 1 d0).ii)) = true then
 Out.andThenB (if 81 = 81 ∧ 0 ≤ (v5.getD 2 d0).ii ∧ (v5.getD 2 d0).ii < (((v5.getD 0 d0).ll).length : Int) then
 (r_impl_cloneValue [.i (((((v5.getD 0 d0).ll).getD ((v5.getD 2 d0).ii).toNat []).getD 0 d0).ii), .s (((((v5.getD 0 d0).ll).getD ((v5.getD 2 d0).ii).toNat []).getD 1 d0).ss), .sl (((((v5.getD 0 d0).ll).getD ((v5.getD 2 d0).ii).toNat []).getD 2 d0).ll), .sl (((((v5.getD 0 d0).ll).getD ((v5.getD 2 d0).ii).toNat []).getD 3 d0).ll)]).bindR fun r6 =>
 if ((v5.getD 7 d0).ll).length + [[DC.i ((r6.getD 0 d0).ii), DC.s ((r6.getD 1 d0).ss), DC.sl ((r6.getD 2 d0).ll), DC.sl ((r6.getD 3 d0).ll)]].length < LIM ∧ 79 = 79 then
 .norm [.sl ((v5.getD 0 d0).ll), .i ((v5.getD 1 d0).ii), .i ((v5.getD 2 d0).ii), .i ((v5.getD 3 d0).ii), .s ((v5.getD 4 d0).ss), .i ((v5.getD 5 d0).ii), .s ((v5.getD 6 d0).ss), .sl (((v5.getD 7 d0).ll) ++ [[DC.i ((r6.getD 0 d0).ii), DC.s ((r6.getD 1 d0).ss), DC.sl ((r6.getD 2 d0).ll), DC.sl ((r6.getD 3 d0).ll)]]), .sl ((v5.getD 8 d0).ll)]
 else
 .fail
 else
 .fail) 1 fun v7 =>
 .norm [.sl ((v7.getD 0 d0).ll), .i ((v7.getD 1 d0).ii), .i (IntKind.i64.wrap ((v7.getD 2 d0).ii + (1 : Int))), .i ((v7.getD 3 d0).ii), .s ((v7.getD 4 d0).ss), .i ((v7.getD 5 d0).ii), .s ((v7.getD 6 d0).ss), .sl ((v7.getD 7 d0).ll), .sl ((v7.getD 8 d0).ll)]
 else
 .ex 0 [.i ((v5.getD 3 d0).ii), .s ((v5.getD 4 d0).ss), .i ((v5.getD 5 d0).ii), .s ((v5.getD 6 d0).ss), .sl ((v5.getD 7 d0).ll), .sl ((v5.getD 8 d0).ll)]
noncomputable def E_impl_cloneValue (a : List DC) : Out :=
 (r_slices_Clone_string [.sl ((a.getD 3 d0).ll)]).bindR fun r1 =>
 Out.andThenB (Loop E_impl_cloneValueL1 [.sl ((a.getD 2 d0).ll), .i (((a.getD 2 d0).ll).length : Int), .i (0 : Int), .i (0 : Int), .s [], .i ((a.getD 0 d0).ii), .s ((a.getD 1 d0).ss), .sl [], .sl ((r1.getD 0 d0).ll)]) 0 fun v8 =>
 .ret [.i ((v8.getD 2 d0).ii), .s ((v8.getD 3 d0).ss), .sl ((v8.getD 4 d0).ll), .sl ((v8.getD 5 d0).ll)]
theorem eq_impl_cloneValue a : r_impl_cloneValue a = E_impl_cloneValue a := (Run_eq cfg 119 _ a).trans (by kernel_rfl)
noncomputable def E_impl_cloneArgsL1 : List DC → Out := fun v4 =>
 if (decide ((v4.getD 3 d0).ii < (v4.getD 2 d0).ii)) = true then
 Out.andThenB (if 161 = 161 ∧ 0 ≤ (v4.getD 3 d0).ii ∧ (v4.getD 3 d0).ii < (((v4.getD 1 d0).ll).length : Int) then
 (r_impl_cloneValue [.i (((((v4.getD 1 d0).ll).getD ((v4.getD 3 d0).ii).toNat []).getD 1 d0).ii), .s (((((v4.getD 1 d0).ll).getD ((v4.getD 3 d0).ii).toNat []).getD 2 d0).ss), .sl (((((v4.getD 1 d0).ll).getD ((v4.getD 3 d0).ii).toNat []).getD 3 d0).ll), .sl (((((v4.getD 1 d0).ll).getD ((v4.getD 3 d0).ii).toNat []).getD 4 d0).ll)]).bindR fun r5 =>
 if ((v4.getD 0 d0).ll).length + [[DC.s (((((v4.getD 1 d0).ll).getD ((v4.getD 3 d0).ii).toNat []).getD 0 d0).ss), DC.i ((r5.getD 0 d0).ii), DC.s ((r5.getD 1 d0).ss), DC.sl ((r5.getD 2 d0).ll), DC.sl ((r5.getD 3 d0).ll)]].length < LIM ∧ 120 = 120 then
 .norm [.sl (((v4.getD 0 d0).ll) ++ [[DC.s (((((v4.getD 1 d0).ll).getD ((v4.getD 3 d0).ii).toNat []).getD 0 d0).ss), DC.i ((r5.getD 0 d0).ii), DC.s ((r5.getD 1 d0).ss), DC.sl ((r5.getD 2 d0).ll), DC.sl ((r5.getD 3 d0).ll)]]), .sl ((v4.getD 1 d0).ll), .i ((v4.getD 2 d0).ii), .i ((v4.getD 3 d0).ii)]
 else
 .fail
 else
 .fail) 1 fun v6 =>
 .norm [.sl ((v6.getD 0 d0).ll), .sl ((v6.getD 1 d0).ll), .i ((v6.getD 2 d0).ii), .i (IntKind.i64.wrap ((v6.getD 3 d0).ii + (1 : Int)))]
 else
 .ex 0 [.sl ((v4.getD 0 d0).ll)]
noncomputable def E_impl_cloneArgs (a : List DC) : Out :=
 Out.andThenB (Loop E_impl_cloneArgsL1 [.sl [], .sl ((a.getD 0 d0).ll), .i (((a.getD 0 d0).ll).length : Int), .i (0 : Int)]) 0 fun v7 =>
 .ret [.sl ((v7.getD 0 d0).ll)]
theorem eq_impl_cloneArgs a : r_impl_cloneArgs a = E_impl_cloneArgs a := (Run_eq cfg 120 _ a).trans (by kernel_rfl)
noncomputable def E_laws_eqType (a : List DC) : Out :=
 if (!((a.getD 0 d0).ss == (a.getD 2 d0).ss)) = true then
 .ret [.b false]
 else
 if (!((a.getD 1 d0).ss == (a.getD 3 d0).ss)) = true then
 .ret [.b false]
 else
 .ret [.b true]
theorem eq_laws_eqType a : r_laws_eqType a = E_laws_eqType a := (Run_eq cfg 82 _ a).trans (by kernel_rfl)
noncomputable def E_laws_eqValue (a : List DC) : Out :=
 if ((a.getD 0 d0).ii != (a.getD 4 d0).ii) = true then
 .ret [.b false]
 else
 if (!((a.getD 1 d0).ss == (a.getD 5 d0).ss)) = true then
 .ret [.b false]
 else
 (r_laws_eqValueS [.sl ((a.getD 2 d0).ll), .sl ((a.getD 6 d0).ll)]).bindR fun r1 =>
 if (!((r1.getD 0 d0).bb)) = true then
 .ret [.b false]
 else
 (r_laws_eqStringS [.sl ((a.getD 3 d0).ll), .sl ((a.getD 7 d0).ll)]).bindR fun r2 =>
 if (!((r2.getD 0 d0).bb)) = true then
 .ret [.b false]
 else
 .ret [.b true]
theorem eq_laws_eqValue a : r_laws_eqValue a = E_laws_eqValue a := (Run_eq cfg 83 _ a).trans (by kernel_rfl)
noncomputable def E_laws_eqArgSL1 : List DC → Out := fun v1 =>
 if (decide ((v1.getD 2 d0).ii < (((v1.getD 0 d0).ll).length : Int))) = true then
 Out.andThenB (if 161 = 161 ∧ 0 ≤ (v1.getD 2 d0).ii ∧ (v1.getD 2 d0).ii < (((v1.getD 0 d0).ll).length : Int) then
 if 161 = 161 ∧ 0 ≤ (v1.getD 2 d0).ii ∧ (v1.getD 2 d0).ii < (((v1.getD 1 d0).ll).length : Int) then
 (r_laws_eqArg [.s (((((v1.getD 0 d0).ll).getD ((v1.getD 2 d0).ii).toNat []).getD 0 d0).ss), .i (((((v1.getD 0 d0).ll).getD ((v1.getD 2 d0).ii).toNat []).getD 1 d0).ii), .s (((((v1.getD 0 d0).ll).getD ((v1.getD 2 d0).ii).toNat []).getD 2 d0).ss), .sl (((((v1.getD 0 d0).ll).getD ((v1.getD 2 d0).ii).toNat []).getD 3 d0).ll), .sl (((((v1.getD 0 d0).ll).getD ((v1.getD 2 d0).ii).toNat []).getD 4 d0).ll), .s (((((v1.getD 1 d0).ll).getD ((v1.getD 2 d0).ii).toNat []).getD 0 d0).ss), .i (((((v1.getD 1 d0).ll).getD ((v1.getD 2 d0).ii).toNat []).getD 1 d0).ii), .s (((((v1.getD 1 d0).ll).getD ((v1.getD 2 d0).ii).toNat []).getD 2 d0).ss), .sl (((((v1.getD 1 d0).ll).getD ((v1.getD 2 d0).ii).toNat []).getD 3 d0).ll), .sl (((((v1.getD 1 d0).ll).getD ((v1.getD 2 d0).ii).toNat []).getD 4 d0).ll)]).bindR fun r2 =>
 if (!((r2.getD 0 d0).bb)) = true then
 .ret [.b false]
 else
 .norm [.sl ((v1.getD 0 d0).ll), .sl ((v1.getD 1 d0).ll), .i ((v1.getD 2 d0).ii)]
 else
 .fail
 else
 .fail) 1 fun v3 =>
 .norm [.sl ((v3.getD 0 d0).ll), .sl ((v3.getD 1 d0).ll), .i (IntKind.i64.wrap ((v3.getD 2 d0).ii + (1 : Int)))]
 else
 .ex 0 []
noncomputable def E_laws_eqArgS (a : List DC) : Out :=
 if ((((a.getD 0 d0).ll).length : Int) != (((a.getD 1 d0).ll).length : Int)) = true then
 .ret [.b false]
 else
 Out.andThenB (Loop E_laws_eqArgSL1 [.sl ((a.getD 0 d0).ll), .sl ((a.getD 1 d0).ll), .i (0 : Int)]) 0 fun v4 =>
 .ret [.b true]
theorem eq_laws_eqArgS a : r_laws_eqArgS a = E_laws_eqArgS a := (Run_eq cfg 121 _ a).trans (by kernel_rfl)
noncomputable def E_laws_szValueSL1 : List DC → Out := fun v1 =>
 if (decide ((v1.getD 2 d0).ii < (((v1.getD 0 d0).ll).length : Int))) = true then
 Out.andThenB (if 74 = 74 ∧ 0 ≤ (v1.getD 2 d0).ii ∧ (v1.getD 2 d0).ii < (((v1.getD 0 d0).ll).length : Int) then
 (r_laws_szValue [.i (((((v1.getD 0 d0).ll).getD ((v1.getD 2 d0).ii).toNat []).getD 0 d0).ii), .s (((((v1.getD 0 d0).ll).getD ((v1.getD 2 d0).ii).toNat []).getD 1 d0).ss), .sl (((((v1.getD 0 d0).ll).getD ((v1.getD 2 d0).ii).toNat []).getD 2 d0).ll), .sl (((((v1.getD 0 d0).ll).getD ((v1.getD 2 d0).ii).toNat []).getD 3 d0).ll), .i ((v1.getD 1 d0).ii)]).bindR fun r2 =>
 if (decide ((r2.getD 0 d0).ii < (0 : Int))) = true then
 .ret [.i (-1 : Int)]
 else
 .norm [.sl ((v1.getD 0 d0).ll), .i ((r2.getD 0 d0).ii), .i ((v1.getD 2 d0).ii)]
 else
 .fail) 1 fun v3 =>
 .norm [.sl ((v3.getD 0 d0).ll), .i ((v3.getD 1 d0).ii), .i (IntKind.i64.wrap ((v3.getD 2 d0).ii + (1 : Int)))]
 else
 .ex 0 [.i ((v1.getD 1 d0).ii)]
noncomputable def E_laws_szValueS (a : List DC) : Out :=
 if (decide ((IntKind.i64.wrap ((a.getD 1 d0).ii - (((a.getD 0 d0).ll).length : Int))) < (0 : Int))) = true then
 .ret [.i (-1 : Int)]
 else
 Out.andThenB (Loop E_laws_szValueSL1 [.sl ((a.getD 0 d0).ll), .i (IntKind.i64.wrap ((a.getD 1 d0).ii - (((a.getD 0 d0).ll).length : Int))), .i (0 : Int)]) 0 fun v4 =>
 .ret [.i ((v4.getD 0 d0).ii)]
theorem eq_laws_szValueS a : r_laws_szValueS a = E_laws_szValueS a := (Run_eq cfg 111 _ a).trans (by kernel_rfl)
noncomputable def E_laws_szArg (a : List DC) : Out :=
 if (decide ((IntKind.i64.wrap ((a.getD 5 d0).ii - (((a.getD 0 d0).ss).length : Int))) < (0 : Int))) = true then
 .ret [.i (-1 : Int)]
 else
 (r_laws_szValue [.i ((a.getD 1 d0).ii), .s ((a.getD 2 d0).ss), .sl ((a.getD 3 d0).ll), .sl ((a.getD 4 d0).ll), .i (IntKind.i64.wrap ((a.getD 5 d0).ii - (((a.getD 0 d0).ss).length : Int)))]).bindR fun r1 =>
 if (decide ((r1.getD 0 d0).ii < (0 : Int))) = true then
 .ret [.i (-1 : Int)]
 else
 .ret [.i ((r1.getD 0 d0).ii)]
theorem eq_laws_szArg a : r_laws_szArg a = E_laws_szArg a := (Run_eq cfg 122 _ a).trans (by kernel_rfl)
noncomputable def E_laws_toValueSL1 : List DC → Out := fun v1 =>
 if (decide ((v1.getD 2 d0).ii < (((v1.getD 0 d0).ll).length : Int))) = true then
 Out.andThenB (if 74 = 74 ∧ 0 ≤ (v1.getD 2 d0).ii ∧ (v1.getD 2 d0).ii < (((v1.getD 0 d0).ll).length : Int) then
 (r_laws_toValue [.i (((((v1.getD 0 d0).ll).getD ((v1.getD 2 d0).ii).toNat []).getD 0 d0).ii), .s (((((v1.getD 0 d0).ll).getD ((v1.getD 2 d0).ii).toNat []).getD 1 d0).ss), .sl (((((v1.getD 0 d0).ll).getD ((v1.getD 2 d0).ii).toNat []).getD 2 d0).ll), .sl (((((v1.getD 0 d0).ll).getD ((v1.getD 2 d0).ii).toNat []).getD 3 d0).ll)]).bindR fun r2 =>
 if 81 = 81 ∧ 0 ≤ (v1.getD 2 d0).ii ∧ (v1.getD 2 d0).ii < (((v1.getD 1 d0).ll).length : Int) then
 .norm [.sl ((v1.getD 0 d0).ll), .sl (((v1.getD 1 d0).ll).set (((v1.getD 2 d0).ii).toNat) (setRunD (((v1.getD 1 d0).ll).getD (((v1.getD 2 d0).ii).toNat) []) 0 [DC.i ((r2.getD 0 d0).ii), DC.s ((r2.getD 1 d0).ss), DC.sl ((r2.getD 2 d0).ll), DC.sl ((r2.getD 3 d0).ll)])), .i ((v1.getD 2 d0).ii)]
 else
 .fail
 else
 .fail) 1 fun v3 =>
 .norm [.sl ((v3.getD 0 d0).ll), .sl ((v3.getD 1 d0).ll), .i (IntKind.i64.wrap ((v3.getD 2 d0).ii + (1 : Int)))]
 else
 .ex 0 [.sl ((v1.getD 1 d0).ll)]
noncomputable def E_laws_toValueS (a : List DC) : Out :=
 if 0 ≤ (((a.getD 0 d0).ll).length : Int) ∧ (((a.getD 0 d0).ll).length : Int) < (LIM : Int) ∧ (((a.getD 0 d0).ll).length : Int) = (((a.getD 0 d0).ll).length : Int) ∧ 72 ≤ 1024 ∧ 0 < 4 ∧ dp 81 = false then
 Out.andThenB (Loop E_laws_toValueSL1 [.sl ((a.getD 0 d0).ll), .sl (List.replicate (((a.getD 0 d0).ll).length : Int).toNat [DC.i 0, DC.s [], DC.sl [], DC.sl []]), .i (0 : Int)]) 0 fun v4 =>
 .ret [.sl ((v4.getD 0 d0).ll)]
 else
 .fail
theorem eq_laws_toValueS a : r_laws_toValueS a = E_laws_toValueS a := (Run_eq cfg 112 _ a).trans (by kernel_rfl)
noncomputable def E_laws_toArg (a : List DC) : Out :=
 (r_laws_toValue [.i ((a.getD 1 d0).ii), .s ((a.getD 2 d0).ss), .sl ((a.getD 3 d0).ll), .sl ((a.getD 4 d0).ll)]).bindR fun r1 =>
 .ret [.s ((a.getD 0 d0).ss), .i ((r1.getD 0 d0).ii), .s ((r1.getD 1 d0).ss), .sl ((r1.getD 2 d0).ll), .sl ((r1.getD 3 d0).ll)]
theorem eq_laws_toArg a : r_laws_toArg a = E_laws_toArg a := (Run_eq cfg 123 _ a).trans (by kernel_rfl)
noncomputable def E_laws_eqValueSL1 : List DC → Out := fun v1 =>
 if (decide ((v1.getD 2 d0).ii < (((v1.getD 0 d0).ll).length : Int))) = true then
 Out.andThenB (if 81 = 81 ∧ 0 ≤ (v1.getD 2 d0).ii ∧ (v1.getD 2 d0).ii < (((v1.getD 0 d0).ll).length : Int) then
 if 81 = 81 ∧ 0 ≤ (v1.getD 2 d0).ii ∧ (v1.getD 2 d0).ii < (((v1.getD 1 d0).ll).length : Int) then
 (r_laws_eqValue [.i (((((v1.getD 0 d0).ll).getD ((v1.getD 2 d0).ii).toNat []).getD 0 d0).ii), .s (((((v1.getD 0 d0).ll).getD ((v1.getD 2 d0).ii).toNat []).getD 1 d0).ss), .sl (((((v1.getD 0 d0).ll).getD ((v1.getD 2 d0).ii).toNat []).getD 2 d0).ll), .sl (((((v1.getD 0 d0).ll).getD ((v1.getD 2 d0).ii).toNat []).getD 3 d0).ll), .i (((((v1.getD 1 d0).ll).getD ((v1.getD 2 d0).ii).toNat []).getD 0 d0).ii), .s (((((v1.getD 1 d0).ll).getD ((v1.getD 2 d0).ii).toNat []).getD 1 d0).ss), .sl (((((v1.getD 1 d0).ll).getD ((v1.getD 2 d0).ii).toNat []).getD 2 d0).ll), .sl (((((v1.getD 1 d0).ll).getD ((v1.getD 2 d0).ii).toNat []).getD 3 d0).ll)]).bindR fun r2 =>
 if (!((r2.getD 0 d0).bb)) = true then
 .ret [.b false]
 else
 .norm [.sl ((v1.getD 0 d0).ll), .sl ((v1.getD 1 d0).ll), .i ((v1.getD 2 d0).ii)]
 else
 .fail
 else
 .fail) 1 fun v3 =>
 .norm [.sl ((v3.getD 0 d0).ll), .sl ((v3.getD 1 d0).ll), .i (IntKind.i64.wrap ((v3.getD 2 d0).ii + (1 : Int)))]
 else
 .ex 0 []
noncomputable def E_laws_eqValueS (a : List DC) : Out :=
 if ((((a.getD 0 d0).ll).length : Int) != (((a.getD 1 d0).ll).length : Int)) = true then
 .ret [.b false]
 else
 Out.andThenB (Loop E_laws_eqValueSL1 [.sl ((a.getD 0 d0).ll), .sl ((a.getD 1 d0).ll), .i (0 : Int)]) 0 fun v4 =>
 .ret [.b true]
theorem eq_laws_eqValueS a : r_laws_eqValueS a = E_laws_eqValueS a := (Run_eq cfg 114 _ a).trans (by kernel_rfl)
noncomputable def E_laws_eqArg (a : List DC) : Out :=
 if (!((a.getD 0 d0).ss == (a.getD 5 d0).ss)) = true then
 .ret [.b false]
 else
 (r_laws_eqValue [.i ((a.getD 1 d0).ii), .s ((a.getD 2 d0).ss), .sl ((a.getD 3 d0).ll), .sl ((a.getD 4 d0).ll), .i ((a.getD 6 d0).ii), .s ((a.getD 7 d0).ss), .sl ((a.getD 8 d0).ll), .sl ((a.getD 9 d0).ll)]).bindR fun r1 =>
 if (!((r1.getD 0 d0).bb)) = true then
 .ret [.b false]
 else
 .ret [.b true]
theorem eq_laws_eqArg a : r_laws_eqArg a = E_laws_eqArg a := (Run_eq cfg 124 _ a).trans (by kernel_rfl)
end Go.Proofs.QV

