import Derived.Test.YtelhaocbeabchaaMJ6
import Derived.Lib.SliceRun
import Derived.Test.YtelhaocbeabchaaMJ5
import Derived.Test.YtelhaocbeabchaaProg
/- A function that is met by a contract and gives a copy of a slice (slices.Clone). -/
namespace Go.Proofs.QV
open Go
set_option linter.unusedVariables false
set_option linter.unusedSimpArgs false
def primC (e : Nat) : Hint → List DC → Option (List DC) := fun h v =>
  match h.tm, h.ob, v with
  | [.one (.sl e')], [], [.sl l] => if e' = e ∧ l.length < LIM then some [.sl l] else none
  | _, _, _ => none
def clCond : Code → Code
  | .seq _ (.seq (.seq _ x) _) => x
  | _ => .skip
def clRest : Code → Code
  | .seq _ (.seq _ y) => y
  | _ => .skip
def noFn : Nat → Option FI := fun _ => none
def noCl : Nat → Hint → List DC → Out := fun _ _ _ => .fail
def clRun (ty : Nat → Option TI) (fi : FI) (e : Nat) (ac ar : AC) (b : Bool) (l : List (List DC)) : Out :=
  let h : Hint := ⟨[.one (.sl e)], []⟩
  let st := startSt fi h [.sl l]
  exec ty noFn noCl 0 0 (retOut ty fi h) (.seq ac ar) (fun _ => none) { tm := putC (putC (putC st.tm (some 2) (.one .nil)) (some 3) (.one (.sl e l))) (some 4) (.one (.bool b)), H := st.H } (retOut ty fi h)
structure ClShape (P : Program) (fd : Func) (e : Nat) (ac ar : AC) : Prop where
  ex : ∃ (i0 i1 : Nat) (o0 om ob : Oper) (t t' : Nat), fd.body = some (.seq (.region i0 #[o0] false) (.seq (.seq (.region i1 #[om, ob] false) ac.code) ar.code)) ∧
    (o0.op = .assign (.const (.slice none 0 0)) ∧ o0.dst = some 2 ∧ o0.guard = none) ∧ (om.op = .move (.tmp 0) ∧ om.dst = some 3 ∧ om.guard = none) ∧
    (ob.op = .binOp .eql t (.tmp 3) (.const (.slice none 0 0)) t' ∧ ob.dst = some 4 ∧ ob.guard = none) ∧ P.underlying t = some (.slice e)
section
variable {P : Program} {ty : Nat → Option TI}
theorem eval_put_neq {a : Act} {d e : Nat} {u : Value} (h : d ≠ e) : (a.put (some d) u).eval (.tmp e) = a.eval (.tmp e) := by
  show (a.tmps.setIfInBounds d u).getD e undef = a.tmps.getD e undef
  rw [Array.getD_eq_getD_getElem?, Array.getD_eq_getD_getElem?, Array.getElem?_setIfInBounds_ne h]
theorem prim_clone {G : Glob} {f : Nat} {fi : FI} {fd : Func} {e : Nat} {ac ar : AC} (hty : TyOk P ty) (hmix : P.follows .mixedOrders = true) (h1 : P.funcs[f]? = some fd) (h2 : (fd.name == "runtime.NumGoroutine") = false) (h3 : fd.body.isNone = false)
    (hmk : fi.mark = none) (hp : fi.prim = some (primC e)) (hsh : ClShape P fd e ac ar) (hres : fd.results.toList = fi.res) (hnt : fd.ntmps = fi.ntmps) (hlen : 4 < fi.ntmps)
    (hrun : ∀ b l, (b = true → l = []) → l.length < LIM → clRun ty fi e ac ar b l = .ret [.sl l]) : FnOk P G ty f fi := by
  refine ⟨⟨fd, h1, h2, h3, fun h => by rw [hp] at h; simp at h⟩, fun p hpp h v r en => ?_, fun m hm => by rw [hmk] at hm; cases hm⟩
  rw [hp] at hpp
  simp only [Option.some.injEq] at hpp
  subst hpp
  unfold primC at en
  split at en
  · rename_i e' l htm hob
    split at en
    · rename_i hc
      obtain ⟨rfl, hlim⟩ := hc
      simp only [Option.some.injEq] at en
      subst en
      obtain ⟨tm, ob⟩ := h
      dsimp only at htm hob
      subst htm hob
      intro A g vals w hA hr hs hw hm
      have hs1 : vals.size = 1 := by simpa using hs
      obtain ⟨i0, i1, o0, om, ob, t, t', hbody, ⟨x1, x2, x3⟩, ⟨y1, y2, y3⟩, ⟨z1, z2, z3⟩, hu⟩ := hsh.ex
      have t0 := hr.tm 0 _ (vals[0]'(by omega)) (show (startSt fi ⟨[.one (.sl e')], []⟩ [.sl l]).tm[0]? = some (.one (.sl e' l)) from rfl) (by
        dsimp only
        rw [Array.getElem?_append_left (by omega), Array.getElem?_eq_getElem (by omega)])
      obtain ⟨F, t0, t1⟩ := t0
      have hv0 : ∀ v0, RdC ty w (.sl e') (.sl l) v0 F → ∃ ad n cap, v0 = .slice ad n cap ∧ (ad.isNone = true → l = []) := by
        intro v0 h0
        generalize hl0 : l = l0 at h0
        cases h0 with
        | nil _ a c => exact ⟨a, 0, c, rfl, fun _ => rfl⟩
        | sl _ _ b off n cap => exact ⟨_, n, cap, rfl, fun h => by simp at h⟩
      obtain ⟨ad, n, cap, hv0, hnil⟩ := hv0 _ t0
      refine calls_of_wp h1 hbody ?_
      rw [hnt]
      generalize ha0 : ({ tmps := vals ++ Array.replicate (fi.ntmps - vals.size) undef, defers := [] } : Act) = a0 at hr ⊢
      have e0 : a0.eval (.tmp 0) = .slice ad n cap := by
        subst ha0
        show Array.getD _ 0 undef = _
        rw [Array.getD_eq_getD_getElem?, Array.getElem?_append_left (by omega), Array.getElem?_eq_getElem (by omega), hv0]
        rfl
      have n1 : 4 < a0.tmps.size := by subst ha0; simp; omega
      refine wp_seq (wp_region ?_)
      show wpOps P #[o0] _ [0] a0 w
      refine wp_cons_none (o := o0) rfl x3 (wp_value (v := .slice none 0 0) (w' := w) (by simp [execOp, x1, Act.eval]) ?_)
      rw [x2]
      have r1 := hr.put (some 2) (c := .one .nil) (v := .slice none 0 0) rfl
      refine wp_seq (wp_seq (wp_region ?_))
      show wpOps P #[om, ob] _ [0, 1] _ w
      have e1 : (a0.put (some 2) (.slice none 0 0)).eval (.tmp 0) = .slice ad n cap := by rw [eval_put_neq (by decide)]; exact e0
      refine wp_cons_none (o := om) rfl y3 (wp_value (v := .slice ad n cap) (w' := w) (by simp only [execOp, y1, Sem.run_pure]; rw [e1]) ?_)
      rw [y2]
      have r2 := r1.put (some 3) (c := .one (.sl e' l)) (v := .slice ad n cap) ⟨F, by rw [← hv0]; exact t0, t1⟩
      refine wp_cons_none (o := ob) rfl z3 (wp_value (v := .bool ad.isNone) (w' := w) ?_ ?_)
      · have e2 : ((a0.put (some 2) (.slice none 0 0)).put (some 3) (.slice ad n cap)).eval (.tmp 3) = .slice ad n cap := by
          show Array.getD _ 3 undef = _
          rw [Array.getD_eq_getD_getElem?]
          simp only [Act.put]
          rw [Array.getElem?_setIfInBounds_self_of_lt (by simp; omega)]
          rfl
        simp only [execOp, z1]
        rw [e2]
        simp [eqGuard, Act.eval, Lib.run_eql_slice_nil w t e' ad n cap 0 0 hu]
      rw [z2]
      have r3 := r2.put (some 4) (c := .one (.bool ad.isNone)) (v := .bool ad.isNone) rfl
      have hcall : CallStep P ty noFn noCl A := call_step (G := G) (fun f fi h => by simp [noFn] at h) (fun f fi h v r hf e => by simp [noCl] at e) A hA
      have hex := hrun ad.isNone l hnil hlim
      unfold clRun at hex
      dsimp only at hex
      rw [exec] at hex
      have hm0 : A.m = 0 := by rw [hm]; rfl
      have fin : ∀ g' st' a' w', Rel ty A g' st' a' w' → retOut ty fi ⟨[.one (.sl e')], []⟩ st' = .ret [.sl l] → a'.defers = [] ∧ ∃ v, (results fd a'.tmps).run P w' = .ok v w' ∧ ∃ vs, v = resVal vs ∧ Res ty A (KO.vars []) fi.rk [.sl l] vs w' := by
        intro g' st' a' w' hr' hk
        obtain ⟨vs, q1, q2⟩ := ret_ok hty hr' (hn := ⟨[.one (.sl e')], []⟩) hm hk hres
        exact ⟨hr'.df, _, q1, vs, rfl, q2⟩
      refine wp_mono (exec_ok hty hcall hmix hm0 (fun st v => (retOut_ne fi ⟨[.one (.sl e')], []⟩ st).1 v) (fun st id v => (retOut_ne fi ⟨[.one (.sl e')], []⟩ st).2 id v) ac _ _ _ (.ret [.sl l]) g _ w r3 hex (by simp)) fun ex a' w' hq => ?_
      cases ex with
      | normal =>
        obtain ⟨g', st', hr', hk⟩ := hq
        refine wp_mono (exec_ok hty hcall hmix hm0 (fun st v => (retOut_ne fi ⟨[.one (.sl e')], []⟩ st).1 v) (fun st id v => (retOut_ne fi ⟨[.one (.sl e')], []⟩ st).2 id v) ar _ _ _ (.ret [.sl l]) g' _ w' hr' hk (by simp)) fun ex a2 w2 hq2 => ?_
        cases ex with
        | normal =>
          obtain ⟨g2, st2, hr2, hk2⟩ := hq2
          exact fin g2 st2 a2 w2 hr2 hk2
        | ret =>
          obtain ⟨g2, st2, hr2, hk2⟩ := hq2
          exact fin g2 st2 a2 w2 hr2 hk2
        | exit id =>
          obtain ⟨_, _, _, hk, _⟩ := hq2
          simp at hk
        | goto l => exact hq2.elim
        | panic c => exact hq2.elim
        | outgrown => exact hq2.elim
      | ret =>
        obtain ⟨g2, st2, hr2, hk2⟩ := hq
        exact fin g2 st2 a' w' hr2 hk2
      | exit id =>
        obtain ⟨_, _, _, hk, _⟩ := hq
        simp at hk
      | goto l => exact hq.elim
      | panic c => exact hq.elim
      | outgrown => exact hq.elim
    · simp at en
  · simp at en
end
set_option maxRecDepth 100000
abbrev ou : KC := .one .u
abbrev ob : KC := .one .b
abbrev os : KC := .one .s
abbrev oi : KC := .one (.i .i64)
abbrev ol (e : Nat) : KC := .one (.sl e)
def uu (n : Nat) (l : List KC) : List KC := List.replicate n (.one .u) ++ l
def vv (n : Nat) (l : List KO) : List KO := List.replicate n .u ++ l
noncomputable def tyL : List (Nat × TI) := [(3, ⟨.int .i64, [.i .i64], 8, [], false⟩),
  (4, ⟨.bool, [.b], 1, [], false⟩),
  (5, ⟨.int .u8, [.i .u8], 1, [], false⟩),
  (9, ⟨.str, [.s], 16, [], false⟩),
  (24, ⟨.slice 9, [.sl 9], 24, [], false⟩),
  (33, ⟨.slice 35, [.sl 35], 24, [], false⟩),
  (35, ⟨.struct, [.i .i64, .s, .sl 35, .sl 9], 72, [(0, 1, false), (1, 1, false), (2, 1, false), (3, 1, false)], false⟩),
  (37, ⟨.slice 39, [.sl 39], 24, [], false⟩),
  (39, ⟨.struct, [.i .i64, .s, .sl 39, .sl 9], 72, [(0, 1, false), (1, 1, false), (2, 1, false), (3, 1, false)], false⟩),
  (119, ⟨.slice 5, [.sl 5], 24, [], false⟩)]
theorem tys : tyB Try.prog tyL = true := by kernel_rfl
noncomputable def fi40 : FI := mkFI Try.f40 1 [.ct (.i .i64)] [(false, [.ct .s])] (fun _ => (.s .n (.s .n (.s .n (.s (.b (.b (.s .n (.b (.s (.r [0, 0, 0, 0, 0, 0, 0, 0, 0] none) .n) ⟨oi :: ou :: ou :: os :: uu 16 [], .u :: []⟩)) ⟨oi :: ou :: ou :: os :: uu 16 [], .u :: []⟩) ⟨uu 3 (os :: uu 16 []), .u :: []⟩) .n)))))
noncomputable def E_laws_markTextL1 : List DC → Out := fun v1 =>
    if (decide ((v1.getD 0 d0).ii > (0 : Int))) = true then
      Out.andThenB (if (10 : Int) = 0 then
          .fail
        else
          if (rowBytes [[DC.i (IntKind.u8.wrap (IntKind.i64.wrap ((48 : Int) + (((v1.getD 0 d0).ii).tmod (10 : Int)))))]]).length + ((v1.getD 1 d0).ss).length < LIM then
            if (10 : Int) = 0 then
              .fail
            else
              .norm [.i (IntKind.i64.wrap (((v1.getD 0 d0).ii).tdiv (10 : Int))), .s ((rowBytes [[DC.i (IntKind.u8.wrap (IntKind.i64.wrap ((48 : Int) + (((v1.getD 0 d0).ii).tmod (10 : Int)))))]]) ++ ((v1.getD 1 d0).ss))]
          else
            .fail) 1 fun v2 =>
      .norm [.i ((v2.getD 0 d0).ii), .s ((v2.getD 1 d0).ss)]
    else
      .ex 0 [.s ((v1.getD 1 d0).ss)]
noncomputable def E_laws_markText (a : List DC) : Out :=
    if (decide ((a.getD 0 d0).ii ≤ (0 : Int))) = true then
      .ret [.s ([109, 48] : List UInt8)]
    else
      Out.andThenB (Loop E_laws_markTextL1 [.i ((a.getD 0 d0).ii), .s ([] : List UInt8)]) 0 fun v3 =>
      if ([109] : List UInt8).length + ((v3.getD 0 d0).ss).length < LIM then
        .ret [.s (([109] : List UInt8) ++ ((v3.getD 0 d0).ss))]
      else
        .fail
noncomputable def cfg0 : Cfg := ⟨fun t => look t tyL, fun f => look f [(40, fi40)]⟩
theorem fns0 : ∀ x ∈ [(40, fi40)], FnOk Try.prog Glob.none cfg0.ty x.1 x.2 := all_cons (mkFI_ok Try.func40 (by kernel_rfl)) all_nil
theorem eq0 (a : List DC) : Run cfg0 40 ⟨[.one (.i .i64)], []⟩ a = E_laws_markText a := (Run_eq cfg0 40 _ a).trans (by kernel_rfl)
theorem mt_step (k : Int) (o : List UInt8) (h0 : 0 < k) (h1 : k < 4611686018427387904) (ho : o.length ≤ 100) : ∃ c, E_laws_markTextL1 [.i k, .s o] = .norm [.i (k / 10), .s (c :: o)] := by
  have hw : IntKind.i64.wrap (k.tdiv 10) = k / 10 := by
    rw [Int.tdiv_eq_ediv_of_nonneg (by omega)]
    exact wrap64 (by omega) (by omega)
  have hl : 1 + o.length < LIM := by unfold LIM; omega
  refine ⟨UInt8.ofNat (IntKind.u8.wrap (IntKind.i64.wrap (48 + k.tmod 10))).toNat, ?_⟩
  simp only [E_laws_markTextL1, List.getD_cons_zero, List.getD_cons_succ, DC.ii_i, DC.ss_s, hw]
  simp [h0, hl, rowBytes, Out.andThenB]
  try rfl
theorem mt_loop : ∀ (m : Nat) (k : Int) (o : List UInt8), 0 ≤ k → k < 4611686018427387904 → k < 10 ^ m → o.length + m ≤ 100 → ∃ s : List UInt8, s.length ≤ 100 ∧ Loop E_laws_markTextL1 [.i k, .s o] = .ex 0 [.s s]
  | 0, k, o, h0, _, h1, ho => by
    have : k = 0 := by simp at h1; omega
    subst this
    exact ⟨o, by omega, Loop_ex (by simp [E_laws_markTextL1])⟩
  | m + 1, k, o, h0, hb, h1, ho => by
    by_cases hk : 0 < k
    · obtain ⟨c, hc⟩ := mt_step k o hk hb (by omega)
      rw [Loop_norm hc]
      refine mt_loop m (k / 10) (c :: o) (by omega) (by omega) ?_ (by simp; omega)
      rw [Int.pow_succ] at h1
      omega
    · have : k = 0 := by omega
      subst this
      exact ⟨o, by omega, Loop_ex (by simp [E_laws_markTextL1])⟩
theorem mt_ok (k : Int) (h0 : 0 ≤ k) (h1 : k < 4611686018427387904) : ∃ s, E_laws_markText [.i k] = .ret [.s s] := by
  by_cases hk : k ≤ 0
  · exact ⟨[109, 48], by simp [E_laws_markText, hk]⟩
  · obtain ⟨s, hs, h⟩ := mt_loop 19 k [] h0 h1 (by have : (10 : Int) ^ 19 = 10000000000000000000 := by decide
                                                   omega) (by simp)
    have hl : 1 + s.length < LIM := by unfold LIM; omega
    refine ⟨109 :: s, ?_⟩
    simp only [E_laws_markText, List.getD_cons_zero, List.getD_cons_succ, DC.ii_i, DC.ss_s, h, Out.andThenB]
    simp [hk, hl, Nat.add_comm]
    try (unfold LIM; omega)
noncomputable def mtx (k : Int) : List UInt8 := match E_laws_markText [.i k] with | .ret [.s s] => s | _ => []
theorem mtx_eq {k : Int} (h0 : 0 ≤ k) (h1 : k < 4611686018427387904) : E_laws_markText [.i k] = .ret [.s (mtx k)] := by
  obtain ⟨s, h⟩ := mt_ok k h0 h1
  unfold mtx
  rw [h]
noncomputable def mT : Int → Option (List UInt8) := fun k => some (mtx k)
def ms14 : List MA := [.txt 0, .inc]
def ms52 : List MA := [.int 0, .inc, .txt 1, .inc, .sub 2 52, .upd, .sub 3 14, .upd]
noncomputable def ti9 : TI := ⟨.str, [.s], 16, [], false⟩
noncomputable def ti39 : TI := ⟨.struct, [.i .i64, .s, .sl 39, .sl 9], 72, [(0, 1, false), (1, 1, false), (2, 1, false), (3, 1, false)], false⟩
def mTab : Nat → Option (List MA) := fun f => look f [(14, ms14), (52, ms52)]
def mMt : Nat → Option Nat := fun f => look f [(14, 9), (52, 39)]
theorem mtabok : TabOk Try.prog (fun t => look t tyL) mT 40 mMt mTab where
  tyo := (tyB_ok tys).1
  fd := by
    rintro f (rfl | ⟨e, he⟩)
    · exact ⟨_, Try.func40, by kernel_rfl, rfl⟩
    have := look_mem he
    simp only [List.mem_cons, Prod.mk.injEq, List.not_mem_nil, or_false] at this
    rcases this with ⟨rfl, rfl⟩ | ⟨rfl, rfl⟩
    · exact ⟨_, Try.func14, by kernel_rfl, rfl⟩
    · exact ⟨_, Try.func52, by kernel_rfl, rfl⟩
  tfc := by
    intro k s w h0 h1 hs
    obtain rfl : mtx k = s := Option.some.inj hs
    exact int_calls (cfg := cfg0) (G := Glob.none) (tyB_ok tys).1 (by kernel_rfl) (fn_ok fns0) (f := 40) (fi := fi40) (by kernel_rfl) ⟨trivial, fun _ h => h.elim⟩ rfl rfl (Run.evt ((eq0 _).trans (mtx_eq h0 h1)))
  tfs := fun k _ _ => ⟨_, rfl⟩
  sh := by
    intro f e he
    have := look_mem he
    simp only [List.mem_cons, Prod.mk.injEq, List.not_mem_nil, or_false] at this
    rcases this with ⟨rfl, rfl⟩ | ⟨rfl, rfl⟩
    · exact ⟨ti9, Try.f14, ms14, by kernel_rfl, Try.func14, by kernel_rfl, by kernel_rfl⟩
    · exact ⟨ti39, Try.f52, ms52, by kernel_rfl, Try.func52, by kernel_rfl, by kernel_rfl⟩
noncomputable def h_slices_Clone_string : Hint := ⟨ol 9 :: [], []⟩
noncomputable def fi4 : FI := mkFI Try.f4 31 [.ag [.i .i64, .s, .sl 35, .sl 9], .ct .s] [(false, [.ct .b])] (fun _ => (.s (.r [0, 0] none) (.s .n (.s .n (.s .n (.s .n (.s (.r [0, 1, 0, 3, 0, 0, 0, 5, 0, 0] none) (.s (.r [0, 6, 8, 0] none) (.s (.r [0, 0, 9, 0, 0, 0, 11, 0, 0] none) (.s (.s (.r [] (some ⟨ou :: os :: .one (.ptr 0 0) :: uu 3 (.one (.ptr 5 0) :: ob :: .one (.ptr 8 0) :: .one (.ptr 11 0) :: ob :: uu 36 (ob :: uu 56 [])), .var 35 [.i .i64, .s, .sl 35, .sl 9] :: vv 4 (.var 39 [.i .i64, .s, .own 1039 12, .own 9 13] :: .u :: .u :: .var 39 [.i .i64, .s, .own 1039 14, .own 9 15] :: .u :: .u :: .var 39 [.i .i64, .s, .own 1039 16, .own 9 17] :: vv 19 [])⟩)) .n) (.s (.s (.r [0, 0, 18, 0, 0] none) .n) (.s .n (.s .n (.s (.s (.r [] (some ⟨ou :: os :: .one (.ptr 0 0) :: uu 3 (.one (.ptr 5 0) :: ob :: ou :: .one (.ptr 11 0) :: uu 58 (ob :: uu 35 [])), .var 35 [.i .i64, .s, .sl 35, .sl 9] :: vv 4 (.var 39 [.i .i64, .s, .own 1039 20, .own 9 21] :: vv 5 (.var 39 [.i .i64, .s, .own 1039 22, .own 9 23] :: vv 19 []))⟩)) .n) (.s .n (.s .n (.s .n (.s .n (.s .n (.s .n (.s (.r [0, 24, 0, 26, 0, 0, 0, 28, 0, 0] none) (.s (.s (.r [] (some ⟨uu 9 (.one (.ptr 11 0) :: ou :: ou :: oi :: uu 82 (ob :: uu 8 [])), vv 11 (.var 39 [.i .i64, .s, .own 1039 29, .own 9 30] :: vv 19 [])⟩)) .n) .n))))))))))))))))))))))
noncomputable def fi16 : FI := mkFI Try.f16 1 [.ag [.i .i64, .s, .sl 35, .sl 9], .ct (.i .i64)] [(false, [.ct (.i .i64)])] (fun _ => (.s (.r [0, 0] none) .n))
noncomputable def fi18 : FI := mkFI Try.f18 5 [.ag [.i .i64, .s, .sl 35, .sl 9]] [(true, [.ct (.i .i64), .ct .s, .new 1039, .new 9])] (fun _ => (.s (.r [0, 1] none) (.s (.r [2] none) (.s .n (.s .n (.s (.r [0, 0, 3, 0, 0] none) (.s (.r [0, 0, 4, 0, 0] none) .n)))))))
noncomputable def fi17 : FI := mkFI Try.f17 5 [.ag [.i .i64, .s, .sl 39, .sl 9], .ct .s] [(true, [.ct (.i .i64), .ct .s, .new 1039, .new 9]), (false, [.ct .b])] (fun _ => (.s (.r [0, 1, 0] none) (.s (.r [0, 0, 0, 0, 0, 0, 2, 0, 0] none) (.s (.r [0, 3, 0, 0, 0] none) .n))))
noncomputable def fi19 : FI := mkFI Try.f19 5 [.ag [.i .i64, .s, .sl 39, .sl 9], .ct .s] [(true, [.ct (.i .i64), .ct .s, .new 1039, .new 9]), (false, [.ct .b])] (fun _ => (.s (.r [0, 1, 0] none) (.s (.r [0, 0, 0, 0, 0, 0, 2, 0, 0] none) (.s (.r [0, 3, 0, 0, 0] none) .n))))
noncomputable def fi20 : FI := mkFI Try.f20 2 [.ag [.i .i64, .s, .sl 39, .sl 9], .ag [.i .i64, .s, .sl 39, .sl 9]] [(false, [.ct .b])] (fun _ => (.s (.r [0, 1, 0] none) .n))
noncomputable def fi22 : FI := mkFI Try.f22 1 [.ag [.i .i64, .s, .sl 39, .sl 9], .ct (.i .i64)] [(false, [.ct (.i .i64)])] (fun _ => (.s (.r [0, 0] none) .n))
noncomputable def fi43 : FI := mkFI Try.f43 0 [.ct (.sl 35), .ct (.i .i64)] [(false, [.ct (.i .i64)])] (fun _ => (.s .n (.s .n (.s .n (.s (.s .n (.b (.b (.s .n (.s (.b .n ⟨ol 35 :: oi :: uu 3 (oi :: uu 21 []), []⟩) .n)) ⟨ol 35 :: oi :: uu 3 (oi :: uu 21 []), []⟩) ⟨ou :: oi :: uu 25 [], []⟩)) .n)))))
noncomputable def fi44 : FI := mkFI Try.f44 0 [.ct (.sl 9), .ct (.i .i64)] [(false, [.ct (.i .i64)])] (fun _ => (.s .n (.s .n (.s .n (.s (.s .n (.b (.b (.s .n (.s (.b .n ⟨ol 9 :: oi :: uu 3 (oi :: uu 22 []), []⟩) .n)) ⟨ol 9 :: oi :: uu 3 (oi :: uu 22 []), []⟩) ⟨ou :: oi :: uu 26 [], []⟩)) .n)))))
noncomputable def fi47 : FI := mkFI Try.f47 7 [.ct (.sl 35)] [(false, [.new 1039])] (fun _ => (.s .n (.s (.r [0, 0, 1, 0] none) (.s (.s .n (.b (.b (.s .n (.s (.b (.r [0, 0, 0, 0, 0, 0, 3, 0, 0] none) ⟨ol 35 :: ou :: ou :: .one (.own 1039 5) :: oi :: uu 18 [], vv 7 []⟩) .n)) ⟨ol 35 :: ou :: ou :: .one (.own 1039 2) :: oi :: uu 18 [], vv 7 []⟩) ⟨uu 3 (.one (.own 1039 6) :: uu 19 []), vv 7 []⟩)) .n))))
noncomputable def fi48 : FI := mkFI Try.f48 4 [.ct (.sl 9)] [(false, [.new 9])] (fun _ => (.s .n (.s (.r [0, 0, 0, 0] none) (.s (.s .n (.b (.b (.s .n (.s (.b .n ⟨ol 9 :: ou :: ou :: .one (.own 9 2) :: oi :: uu 17 [], vv 4 []⟩) .n)) ⟨ol 9 :: ou :: ou :: .one (.own 9 1) :: oi :: uu 17 [], vv 4 []⟩) ⟨uu 3 (.one (.own 9 3) :: uu 18 []), vv 4 []⟩)) .n))))
noncomputable def fi45 : FI := mkFI Try.f45 2 [.ag [.i .i64, .s, .sl 39, .sl 9], .ct .s] [(true, [.ct (.i .i64), .ct .s, .ct (.sl 39), .ct (.sl 9)]), (false, [.ct .b])] (fun _ => (.s (.r [0, 1, 0] none) (.s (.s .n (.b (.b (.s (.s (.r [] (some ⟨ou :: os :: .one (.ptr 0 0) :: ou :: .one (.ptr 1 0) :: ou :: oi :: uu 16 (ob :: uu 15 []), .var 39 [.i .i64, .s, .sl 39, .sl 9] :: .var 39 [.i .i64, .s, .nil, .nil] :: []⟩)) .n) (.s (.b .n ⟨ou :: os :: .one (.ptr 0 0) :: ou :: .one (.ptr 1 0) :: ou :: oi :: uu 32 [], .var 39 [.i .i64, .s, .sl 39, .sl 9] :: .var 39 [.i .i64, .s, .nil, .nil] :: []⟩) .n)) ⟨ou :: os :: .one (.ptr 0 0) :: ou :: .one (.ptr 1 0) :: ou :: oi :: uu 32 [], .var 39 [.i .i64, .s, .sl 39, .sl 9] :: .var 39 [.i .i64, .s, .nil, .nil] :: []⟩) ⟨uu 4 (.one (.ptr 1 0) :: uu 34 []), .u :: .var 39 [.i .i64, .s, .nil, .nil] :: []⟩)) .n)))
noncomputable def fi46 : FI := mkFI Try.f46 16 [.ag [.i .i64, .s, .sl 39, .sl 9]] [(true, [.ct (.i .i64), .ct .s, .new 1039, .new 9])] (fun _ => (.s (.r [0, 1] none) (.s (.r [0, 0, 0, 0, 2, 0, 0, 3, 0, 4, 0] none) (.s (.s .n (.b (.b (.s .n (.s (.b (.r [0, 0, 0, 0, 0, 0, 0, 6, 9, 10, 0, 0] none) ⟨ou :: .one (.ptr 0 0) :: .one (.ptr 1 0) :: .one (.ptr 4 0) :: oi :: uu 28 [], .var 39 [.i .i64, .s, .sl 39, .sl 9] :: .var 39 [.i .i64, .s, .nil, .nil] :: .u :: .u :: .var 39 [.i .i64, .s, .own 1039 11, .own 9 12] :: vv 11 []⟩) .n)) ⟨ou :: .one (.ptr 0 0) :: .one (.ptr 1 0) :: .one (.ptr 4 0) :: oi :: uu 28 [], .var 39 [.i .i64, .s, .sl 39, .sl 9] :: .var 39 [.i .i64, .s, .nil, .nil] :: .u :: .u :: .var 39 [.i .i64, .s, .own 1039 13, .own 9 5] :: vv 11 []⟩) ⟨ou :: ou :: .one (.ptr 1 0) :: .one (.ptr 4 0) :: uu 29 [], .u :: .var 39 [.i .i64, .s, .nil, .nil] :: .u :: .u :: .var 39 [.i .i64, .s, .own 1039 14, .own 9 15] :: vv 11 []⟩)) .n))))
noncomputable def fi49 : FI := mkFI Try.f49 2 [.ag [.i .i64, .s, .sl 39, .sl 9], .ct .s] [(true, [.ct (.i .i64), .ct .s, .ct (.sl 39), .ct (.sl 9)]), (false, [.ct .b])] (fun _ => (.s (.r [0, 1, 0] none) (.s .n (.s (.s (.r [] (some ⟨ou :: ou :: .one (.ptr 0 0) :: ou :: .one (.ptr 1 0) :: ou :: oi :: uu 15 (ob :: uu 6 []), .var 39 [.i .i64, .s, .sl 39, .sl 9] :: .var 39 [.i .i64, .s, .nil, .nil] :: []⟩)) .n) .n))))
noncomputable def fi50 : FI := mkFI Try.f50 16 [.ag [.i .i64, .s, .sl 39, .sl 9]] [(true, [.ct (.i .i64), .ct .s, .new 1039, .new 9])] (fun _ => (.s (.r [0, 1] none) (.s (.r [0, 0, 0, 0, 0, 0, 2, 0, 3, 0] none) (.s (.s .n (.b (.b (.s .n (.s .n (.s (.b (.s (.r [0, 0, 5, 0] none) (.r [0, 0, 0, 6, 9, 10, 0, 0] none)) ⟨ou :: ou :: .one (.ptr 1 0) :: .one (.ptr 3 0) :: uu 11 (ol 39 :: oi :: oi :: uu 12 []), .u :: .var 39 [.i .i64, .s, .nil, .nil] :: .u :: .var 39 [.i .i64, .s, .own 1039 11, .own 9 12] :: vv 12 []⟩) .n))) ⟨ou :: ou :: .one (.ptr 1 0) :: .one (.ptr 3 0) :: uu 11 (ol 39 :: oi :: oi :: uu 12 []), .u :: .var 39 [.i .i64, .s, .nil, .nil] :: .u :: .var 39 [.i .i64, .s, .own 1039 13, .own 9 4] :: vv 12 []⟩) ⟨ou :: ou :: .one (.ptr 1 0) :: .one (.ptr 3 0) :: uu 26 [], .u :: .var 39 [.i .i64, .s, .nil, .nil] :: .u :: .var 39 [.i .i64, .s, .own 1039 14, .own 9 15] :: vv 12 []⟩)) .n))))
noncomputable def fi51 : FI := mkFI Try.f51 0 [.ct (.sl 39), .ct (.sl 39)] [(false, [.ct .b])] (fun _ => (.s .n (.s .n (.s (.s .n (.b (.b (.s .n (.s (.b .n ⟨ol 39 :: ol 39 :: uu 3 (oi :: uu 21 []), []⟩) .n)) ⟨ol 39 :: ol 39 :: uu 3 (oi :: uu 21 []), []⟩) ⟨uu 27 [], []⟩)) .n))))
noncomputable def fi11 : FI := mkFI Try.f11 0 [.ct (.sl 9), .ct (.sl 9)] [(false, [.ct .b])] (fun _ => (.s .n (.s .n (.s (.s .n (.b (.b (.s .n (.s (.b .n ⟨ol 9 :: ol 9 :: uu 3 (oi :: uu 20 []), []⟩) .n)) ⟨ol 9 :: ol 9 :: uu 3 (oi :: uu 20 []), []⟩) ⟨uu 26 [], []⟩)) .n))))
noncomputable def fi53 : FI := mkFI Try.f53 0 [.ct (.sl 39), .ct (.i .i64)] [(false, [.ct (.i .i64)])] (fun _ => (.s .n (.s (.s .n (.b (.b (.s .n (.s (.b .n ⟨ol 39 :: oi :: uu 3 (oi :: uu 44 []), []⟩) .n)) ⟨ol 39 :: oi :: uu 3 (oi :: uu 44 []), []⟩) ⟨ou :: oi :: uu 48 [], []⟩)) .n)))
noncomputable def fi15 : FI := mkFI Try.f15 0 [.ct (.sl 9), .ct (.i .i64)] [(false, [.ct (.i .i64)])] (fun _ => (.s .n (.s (.s .n (.b (.b (.s .n (.s (.b .n ⟨ol 9 :: oi :: uu 3 (oi :: uu 16 []), []⟩) .n)) ⟨ol 9 :: oi :: uu 3 (oi :: uu 16 []), []⟩) ⟨ou :: oi :: uu 20 [], []⟩)) .n)))
noncomputable def fi85 : FI := mkFI Try.f85 0 [.ct (.sl 9), .ct .s] [(false, [.ct (.i .i64)])] (fun _ => (.s .n (.s (.s .n (.b (.b (.s .n (.s .n (.s (.b .n ⟨ol 9 :: os :: uu 5 (oi :: oi :: uu 10 []), []⟩) .n))) ⟨ol 9 :: os :: uu 5 (oi :: oi :: uu 10 []), []⟩) ⟨uu 19 [], []⟩)) .n)))
noncomputable def fi86 : FI := mkFI Try.f86 0 [.ct (.i .i64), .ct (.i .i64), .ct (.i .i64)] [(false, [.ct .b])] (fun _ => (.s .n (.s (.r [] (some ⟨uu 6 (ob :: uu 8 []), []⟩)) .n)))
noncomputable def fi87 : FI := { mkFI Try.f87 4 [.ct (.sl 9)] [(false, [.new 9])] (fun _ => .n) with prim := some (primC 9) }
noncomputable def ac87 : AC := ann (clCond (Try.f87.body.getD .skip)) .n
noncomputable def ar87 : AC := ann (clRest (Try.f87.body.getD .skip)) (.s (.r [0, 0, 2, 0] none) .n)
theorem cl87 : ∀ b l, (b = true → l = []) → l.length < LIM → clRun (fun t => look t tyL) fi87 9 ac87 ar87 b l = .ret [.sl l] := by
  intro b l h1 h2
  cases b with
  | true =>
    obtain rfl := h1 rfl
    kernel_rfl
  | false =>
    refine (show clRun (fun t => look t tyL) fi87 9 ac87 ar87 false l = (if ([] : List (List DC)).length + l.length < LIM then Out.ret [.sl ([] ++ l)] else .fail) from by kernel_rfl).trans ?_
    rw [if_pos (by simpa using h2), List.nil_append]
noncomputable def fi14 : FI := { mkFI Try.f14 0 [] [] (fun _ => .n) with mark := some (mkI mT mTab 14 9) }
noncomputable def fi52 : FI := { mkFI Try.f52 0 [] [] (fun _ => .n) with mark := some (mkI mT mTab 52 39) }
noncomputable def fi21 : FI := { mkFI Try.f21 0 [] [] (fun _ => .n) with mark := some (mkAI mT mTab 4 [((2, 39), 52), ((3, 9), 14)]) }
noncomputable def fnL : List (Nat × FI) := [(4, fi4), (16, fi16), (18, fi18), (17, fi17), (19, fi19), (20, fi20), (22, fi22), (43, fi43), (44, fi44), (47, fi47), (48, fi48), (45, fi45), (46, fi46), (49, fi49), (50, fi50), (51, fi51), (11, fi11), (53, fi53), (15, fi15), (85, fi85), (86, fi86), (87, fi87), (40, fi40), (14, fi14), (52, fi52), (21, fi21)]
noncomputable def cfg : Cfg := ⟨fun t => look t tyL, fun f => look f fnL⟩
theorem fns : ∀ x ∈ fnL, FnOk Try.prog Glob.none cfg.ty x.1 x.2 :=
  all_cons (mkFI_ok Try.func4 (by kernel_rfl)) <|
  all_cons (mkFI_ok Try.func16 (by kernel_rfl)) <|
  all_cons (mkFI_ok Try.func18 (by kernel_rfl)) <|
  all_cons (mkFI_ok Try.func17 (by kernel_rfl)) <|
  all_cons (mkFI_ok Try.func19 (by kernel_rfl)) <|
  all_cons (mkFI_ok Try.func20 (by kernel_rfl)) <|
  all_cons (mkFI_ok Try.func22 (by kernel_rfl)) <|
  all_cons (mkFI_ok Try.func43 (by kernel_rfl)) <|
  all_cons (mkFI_ok Try.func44 (by kernel_rfl)) <|
  all_cons (mkFI_ok Try.func47 (by kernel_rfl)) <|
  all_cons (mkFI_ok Try.func48 (by kernel_rfl)) <|
  all_cons (mkFI_ok Try.func45 (by kernel_rfl)) <|
  all_cons (mkFI_ok Try.func46 (by kernel_rfl)) <|
  all_cons (mkFI_ok Try.func49 (by kernel_rfl)) <|
  all_cons (mkFI_ok Try.func50 (by kernel_rfl)) <|
  all_cons (mkFI_ok Try.func51 (by kernel_rfl)) <|
  all_cons (mkFI_ok Try.func11 (by kernel_rfl)) <|
  all_cons (mkFI_ok Try.func53 (by kernel_rfl)) <|
  all_cons (mkFI_ok Try.func15 (by kernel_rfl)) <|
  all_cons (mkFI_ok Try.func85 (by kernel_rfl)) <|
  all_cons (mkFI_ok Try.func86 (by kernel_rfl)) <|
  all_cons (prim_clone (e := 9) (ac := ac87) (ar := ar87) (tyB_ok tys).1 (by kernel_rfl) Try.func87 (by kernel_rfl) (by kernel_rfl) rfl rfl ⟨_, _, _, _, _, _, _, rfl, ⟨rfl, rfl, rfl⟩, ⟨rfl, rfl, rfl⟩, ⟨rfl, rfl, rfl⟩, Try.underlying24⟩ rfl rfl (by decide +kernel) cl87) <|
  all_cons (mkFI_ok Try.func40 (by kernel_rfl)) <|
  all_cons (mark_fn (mkFI_ok Try.func14 (by kernel_rfl)) rfl (mkI_ok mtabok (f := 14) (e := 9) (by kernel_rfl))) <|
  all_cons (mark_fn (mkFI_ok Try.func52 (by kernel_rfl)) rfl (mkI_ok mtabok (f := 52) (e := 39) (by kernel_rfl))) <|
  all_cons (mark_fn (mkFI_ok Try.func21 (by kernel_rfl)) rfl (mkAI_ok mtabok Try.func21 (by kernel_rfl))) <| all_nil
noncomputable def r_laws_FnExactJsonGet (a : List DC) : Out := Run cfg 4 ⟨.agg [.i .i64, .s, .sl 35, .sl 9] :: os :: [], []⟩ a
noncomputable def r_laws_szJson (a : List DC) : Out := Run cfg 16 ⟨.agg [.i .i64, .s, .sl 35, .sl 9] :: oi :: [], []⟩ a
noncomputable def r_laws_toJson (a : List DC) : Out := Run cfg 18 ⟨.agg [.i .i64, .s, .sl 35, .sl 9] :: [], []⟩ a
noncomputable def r_spec_JsonGet (a : List DC) : Out := Run cfg 17 ⟨.agg [.i .i64, .s, .sl 39, .sl 9] :: os :: [], []⟩ a
noncomputable def r_impl_JsonGet (a : List DC) : Out := Run cfg 19 ⟨.agg [.i .i64, .s, .sl 39, .sl 9] :: os :: [], []⟩ a
noncomputable def r_laws_eqJson (a : List DC) : Out := Run cfg 20 ⟨.agg [.i .i64, .s, .sl 39, .sl 9] :: .agg [.i .i64, .s, .sl 39, .sl 9] :: [], []⟩ a
noncomputable def r_laws_heldJson (a : List DC) : Out := Run cfg 22 ⟨.agg [.i .i64, .s, .sl 39, .sl 9] :: oi :: [], []⟩ a
noncomputable def r_laws_szJsonS (a : List DC) : Out := Run cfg 43 ⟨ol 35 :: oi :: [], []⟩ a
noncomputable def r_laws_szStringS (a : List DC) : Out := Run cfg 44 ⟨ol 9 :: oi :: [], []⟩ a
noncomputable def r_laws_toJsonS (a : List DC) : Out := Run cfg 47 ⟨ol 35 :: [], []⟩ a
noncomputable def r_laws_toStringS (a : List DC) : Out := Run cfg 48 ⟨ol 9 :: [], []⟩ a
noncomputable def r_spec_l22Get (a : List DC) : Out := Run cfg 45 ⟨.agg [.i .i64, .s, .sl 39, .sl 9] :: os :: [], []⟩ a
noncomputable def r_spec_l22Copy (a : List DC) : Out := Run cfg 46 ⟨.agg [.i .i64, .s, .sl 39, .sl 9] :: [], []⟩ a
noncomputable def r_impl_jsonPart (a : List DC) : Out := Run cfg 49 ⟨.agg [.i .i64, .s, .sl 39, .sl 9] :: os :: [], []⟩ a
noncomputable def r_impl_cloneJson (a : List DC) : Out := Run cfg 50 ⟨.agg [.i .i64, .s, .sl 39, .sl 9] :: [], []⟩ a
noncomputable def r_laws_eqJsonS (a : List DC) : Out := Run cfg 51 ⟨ol 39 :: ol 39 :: [], []⟩ a
noncomputable def r_laws_eqStringS (a : List DC) : Out := Run cfg 11 ⟨ol 9 :: ol 9 :: [], []⟩ a
noncomputable def r_laws_heldJsonS (a : List DC) : Out := Run cfg 53 ⟨ol 39 :: oi :: [], []⟩ a
noncomputable def r_laws_heldStringS (a : List DC) : Out := Run cfg 15 ⟨ol 9 :: oi :: [], []⟩ a
noncomputable def r_slices_Index_string (a : List DC) : Out := Run cfg 85 ⟨ol 9 :: os :: [], []⟩ a
noncomputable def r_impl_in (a : List DC) : Out := Run cfg 86 ⟨oi :: oi :: oi :: [], []⟩ a
noncomputable def r_slices_Clone_string (a : List DC) : Out := Run cfg 87 h_slices_Clone_string a
noncomputable def r_laws_markText (a : List DC) : Out := Run cfg 40 ⟨oi :: [], []⟩ a
noncomputable def E_laws_FnExactJsonGet (a : List DC) : Out :=
 if (decide ((((a.getD 4 d0).ss).length : Int) > (1048576 : Int))) = true then
 .ret [.b true]
 else
 (r_laws_szJson [.i ((a.getD 0 d0).ii), .s ((a.getD 1 d0).ss), .sl ((a.getD 2 d0).ll), .sl ((a.getD 3 d0).ll), .i (1048576 : Int)]).bindR fun r1 =>
 if (decide ((r1.getD 0 d0).ii < (0 : Int))) = true then
 .ret [.b true]
 else
 (r_laws_toJson [.i ((a.getD 0 d0).ii), .s ((a.getD 1 d0).ss), .sl ((a.getD 2 d0).ll), .sl ((a.getD 3 d0).ll)]).bindR fun r2 =>
 (r_spec_JsonGet [.i ((r2.getD 0 d0).ii), .s ((r2.getD 1 d0).ss), .sl ((r2.getD 2 d0).ll), .sl ((r2.getD 3 d0).ll), .s ((a.getD 4 d0).ss)]).bindR fun r3 =>
 (r_laws_toJson [.i ((a.getD 0 d0).ii), .s ((a.getD 1 d0).ss), .sl ((a.getD 2 d0).ll), .sl ((a.getD 3 d0).ll)]).bindR fun r4 =>
 (r_impl_JsonGet [.i ((r4.getD 0 d0).ii), .s ((r4.getD 1 d0).ss), .sl ((r4.getD 2 d0).ll), .sl ((r4.getD 3 d0).ll), .s ((a.getD 4 d0).ss)]).bindR fun r5 =>
 Out.andThen ((r_laws_eqJson [.i ((r5.getD 0 d0).ii), .s ((r5.getD 1 d0).ss), .sl ((r5.getD 2 d0).ll), .sl ((r5.getD 3 d0).ll), .i ((r3.getD 0 d0).ii), .s ((r3.getD 1 d0).ss), .sl ((r3.getD 2 d0).ll), .sl ((r3.getD 3 d0).ll)]).bindR fun r6 =>
 if (!((r6.getD 0 d0).bb)) = true then
 .norm [.s ((a.getD 4 d0).ss), .b ((r3.getD 4 d0).bb), .b ((r5.getD 4 d0).bb), .b true, .i ((a.getD 0 d0).ii), .s ((a.getD 1 d0).ss), .sl ((a.getD 2 d0).ll), .sl ((a.getD 3 d0).ll), .i ((r3.getD 0 d0).ii), .s ((r3.getD 1 d0).ss), .sl ((r3.getD 2 d0).ll), .sl ((r3.getD 3 d0).ll), .i ((r4.getD 0 d0).ii), .s ((r4.getD 1 d0).ss), .sl ((r4.getD 2 d0).ll), .sl ((r4.getD 3 d0).ll), .i ((r5.getD 0 d0).ii), .s ((r5.getD 1 d0).ss), .sl ((r5.getD 2 d0).ll), .sl ((r5.getD 3 d0).ll)]
 else
 .norm [.s ((a.getD 4 d0).ss), .b ((r3.getD 4 d0).bb), .b ((r5.getD 4 d0).bb), .b (!((r5.getD 4 d0).bb == (r3.getD 4 d0).bb)), .i ((a.getD 0 d0).ii), .s ((a.getD 1 d0).ss), .sl ((a.getD 2 d0).ll), .sl ((a.getD 3 d0).ll), .i ((r3.getD 0 d0).ii), .s ((r3.getD 1 d0).ss), .sl ((r3.getD 2 d0).ll), .sl ((r3.getD 3 d0).ll), .i ((r4.getD 0 d0).ii), .s ((r4.getD 1 d0).ss), .sl ((r4.getD 2 d0).ll), .sl ((r4.getD 3 d0).ll), .i ((r5.getD 0 d0).ii), .s ((r5.getD 1 d0).ss), .sl ((r5.getD 2 d0).ll), .sl ((r5.getD 3 d0).ll)]) fun v7 =>
 if (v7.getD 3 d0).bb = true then
 .ret [.b false]
 else
 (r_laws_toJson [.i ((v7.getD 4 d0).ii), .s ((v7.getD 5 d0).ss), .sl ((v7.getD 6 d0).ll), .sl ((v7.getD 7 d0).ll)]).bindR fun r8 =>
 (r_laws_eqJson [.i ((v7.getD 12 d0).ii), .s ((v7.getD 13 d0).ss), .sl ((v7.getD 14 d0).ll), .sl ((v7.getD 15 d0).ll), .i ((r8.getD 0 d0).ii), .s ((r8.getD 1 d0).ss), .sl ((r8.getD 2 d0).ll), .sl ((r8.getD 3 d0).ll)]).bindR fun r9 =>
 if (!((r9.getD 0 d0).bb)) = true then
 .ret [.b false]
 else
 markM Out.fail (mkAV mT mTab [52, 14] [(v7.getD 14 d0).ll, (v7.getD 15 d0).ll] (1 : Int)) 2 fun l10 k11 =>
 Out.andThen (if (decide (k11 < (0 : Int))) = true then
 .norm [.s ((v7.getD 0 d0).ss), .b ((v7.getD 1 d0).bb), .b true, .i ((v7.getD 4 d0).ii), .s ((v7.getD 5 d0).ss), .sl ((v7.getD 6 d0).ll), .sl ((v7.getD 7 d0).ll), .i ((v7.getD 8 d0).ii), .s ((v7.getD 9 d0).ss), .sl ((v7.getD 10 d0).ll), .sl ((v7.getD 11 d0).ll), .i ((v7.getD 16 d0).ii), .s ((v7.getD 17 d0).ss), .sl ((v7.getD 18 d0).ll), .sl ((v7.getD 19 d0).ll)]
 else
 (r_laws_eqJson [.i ((v7.getD 16 d0).ii), .s ((v7.getD 17 d0).ss), .sl ((v7.getD 18 d0).ll), .sl ((v7.getD 19 d0).ll), .i ((v7.getD 8 d0).ii), .s ((v7.getD 9 d0).ss), .sl ((v7.getD 10 d0).ll), .sl ((v7.getD 11 d0).ll)]).bindR fun r12 =>
 if (!((r12.getD 0 d0).bb)) = true then
 .norm [.s ((v7.getD 0 d0).ss), .b ((v7.getD 1 d0).bb), .b true, .i ((v7.getD 4 d0).ii), .s ((v7.getD 5 d0).ss), .sl ((v7.getD 6 d0).ll), .sl ((v7.getD 7 d0).ll), .i ((v7.getD 8 d0).ii), .s ((v7.getD 9 d0).ss), .sl ((v7.getD 10 d0).ll), .sl ((v7.getD 11 d0).ll), .i ((v7.getD 16 d0).ii), .s ((v7.getD 17 d0).ss), .sl ((v7.getD 18 d0).ll), .sl ((v7.getD 19 d0).ll)]
 else
 .norm [.s ((v7.getD 0 d0).ss), .b ((v7.getD 1 d0).bb), .b (!((v7.getD 2 d0).bb == (v7.getD 1 d0).bb)), .i ((v7.getD 4 d0).ii), .s ((v7.getD 5 d0).ss), .sl ((v7.getD 6 d0).ll), .sl ((v7.getD 7 d0).ll), .i ((v7.getD 8 d0).ii), .s ((v7.getD 9 d0).ss), .sl ((v7.getD 10 d0).ll), .sl ((v7.getD 11 d0).ll), .i ((v7.getD 16 d0).ii), .s ((v7.getD 17 d0).ss), .sl ((v7.getD 18 d0).ll), .sl ((v7.getD 19 d0).ll)]) fun v13 =>
 if (v13.getD 2 d0).bb = true then
 .ret [.b false]
 else
 markM Out.fail (mkAV mT mTab [52, 14] [(v13.getD 13 d0).ll, (v13.getD 14 d0).ll] (1 : Int)) 2 fun l14 k15 =>
 (r_laws_heldJson [.i ((v13.getD 11 d0).ii), .s ((v13.getD 12 d0).ss), .sl (l14.getD 0 []), .sl (l14.getD 1 []), .i (1 : Int)]).bindR fun r16 =>
 if (decide ((r16.getD 0 d0).ii < (0 : Int))) = true then
 .ret [.b false]
 else
 if ((r16.getD 0 d0).ii != k15) = true then
 .ret [.b false]
 else
 (r_laws_toJson [.i ((v13.getD 3 d0).ii), .s ((v13.getD 4 d0).ss), .sl ((v13.getD 5 d0).ll), .sl ((v13.getD 6 d0).ll)]).bindR fun r17 =>
 (r_impl_JsonGet [.i ((r17.getD 0 d0).ii), .s ((r17.getD 1 d0).ss), .sl ((r17.getD 2 d0).ll), .sl ((r17.getD 3 d0).ll), .s ((v13.getD 0 d0).ss)]).bindR fun r18 =>
 Out.andThen ((r_laws_eqJson [.i ((r18.getD 0 d0).ii), .s ((r18.getD 1 d0).ss), .sl ((r18.getD 2 d0).ll), .sl ((r18.getD 3 d0).ll), .i ((v13.getD 7 d0).ii), .s ((v13.getD 8 d0).ss), .sl ((v13.getD 9 d0).ll), .sl ((v13.getD 10 d0).ll)]).bindR fun r19 =>
 if (!((r19.getD 0 d0).bb)) = true then
 .norm [.i k15, .b true, .i ((v13.getD 11 d0).ii), .s ((v13.getD 12 d0).ss), .sl (l14.getD 0 []), .sl (l14.getD 1 [])]
 else
 .norm [.i k15, .b (!((r18.getD 4 d0).bb == (v13.getD 1 d0).bb)), .i ((v13.getD 11 d0).ii), .s ((v13.getD 12 d0).ss), .sl (l14.getD 0 []), .sl (l14.getD 1 [])]) fun v20 =>
 if (v20.getD 1 d0).bb = true then
 .ret [.b false]
 else
 (r_laws_heldJson [.i ((v20.getD 2 d0).ii), .s ((v20.getD 3 d0).ss), .sl ((v20.getD 4 d0).ll), .sl ((v20.getD 5 d0).ll), .i (1 : Int)]).bindR fun r21 =>
 if (decide ((r21.getD 0 d0).ii < (0 : Int))) = true then
 .ret [.b false]
 else
 if ((r21.getD 0 d0).ii != (v20.getD 0 d0).ii) = true then
 .ret [.b false]
 else
 .ret [.b true]
theorem eq_laws_FnExactJsonGet a : r_laws_FnExactJsonGet a = E_laws_FnExactJsonGet a := (Run_eq cfg 4 _ a).trans (by kernel_rfl)
noncomputable def E_laws_szJson (a : List DC) : Out :=
 if (decide ((IntKind.i64.wrap ((a.getD 4 d0).ii - (((a.getD 1 d0).ss).length : Int))) < (0 : Int))) = true then
 .ret [.i (-1 : Int)]
 else
 (r_laws_szJsonS [.sl ((a.getD 2 d0).ll), .i (IntKind.i64.wrap ((a.getD 4 d0).ii - (((a.getD 1 d0).ss).length : Int)))]).bindR fun r1 =>
 if (decide ((r1.getD 0 d0).ii < (0 : Int))) = true then
 .ret [.i (-1 : Int)]
 else
 (r_laws_szStringS [.sl ((a.getD 3 d0).ll), .i ((r1.getD 0 d0).ii)]).bindR fun r2 =>
 if (decide ((r2.getD 0 d0).ii < (0 : Int))) = true then
 .ret [.i (-1 : Int)]
 else
 .ret [.i ((r2.getD 0 d0).ii)]
theorem eq_laws_szJson a : r_laws_szJson a = E_laws_szJson a := (Run_eq cfg 16 _ a).trans (by kernel_rfl)
noncomputable def E_laws_toJson (a : List DC) : Out :=
 (r_laws_toJsonS [.sl ((a.getD 2 d0).ll)]).bindR fun r1 =>
 (r_laws_toStringS [.sl ((a.getD 3 d0).ll)]).bindR fun r2 =>
 .ret [.i ((a.getD 0 d0).ii), .s ((a.getD 1 d0).ss), .sl ((r1.getD 0 d0).ll), .sl ((r2.getD 0 d0).ll)]
theorem eq_laws_toJson a : r_laws_toJson a = E_laws_toJson a := (Run_eq cfg 18 _ a).trans (by kernel_rfl)
noncomputable def E_spec_JsonGet (a : List DC) : Out :=
 (r_spec_l22Get [.i ((a.getD 0 d0).ii), .s ((a.getD 1 d0).ss), .sl ((a.getD 2 d0).ll), .sl ((a.getD 3 d0).ll), .s ((a.getD 4 d0).ss)]).bindR fun r1 =>
 (r_spec_l22Copy [.i ((r1.getD 0 d0).ii), .s ((r1.getD 1 d0).ss), .sl ((r1.getD 2 d0).ll), .sl ((r1.getD 3 d0).ll)]).bindR fun r2 =>
 .ret [.i ((r2.getD 0 d0).ii), .s ((r2.getD 1 d0).ss), .sl ((r2.getD 2 d0).ll), .sl ((r2.getD 3 d0).ll), .b ((r1.getD 4 d0).bb)]
theorem eq_spec_JsonGet a : r_spec_JsonGet a = E_spec_JsonGet a := (Run_eq cfg 17 _ a).trans (by kernel_rfl)
noncomputable def E_impl_JsonGet (a : List DC) : Out :=
 (r_impl_jsonPart [.i ((a.getD 0 d0).ii), .s ((a.getD 1 d0).ss), .sl ((a.getD 2 d0).ll), .sl ((a.getD 3 d0).ll), .s ((a.getD 4 d0).ss)]).bindR fun r1 =>
 (r_impl_cloneJson [.i ((r1.getD 0 d0).ii), .s ((r1.getD 1 d0).ss), .sl ((r1.getD 2 d0).ll), .sl ((r1.getD 3 d0).ll)]).bindR fun r2 =>
 .ret [.i ((r2.getD 0 d0).ii), .s ((r2.getD 1 d0).ss), .sl ((r2.getD 2 d0).ll), .sl ((r2.getD 3 d0).ll), .b ((r1.getD 4 d0).bb)]
theorem eq_impl_JsonGet a : r_impl_JsonGet a = E_impl_JsonGet a := (Run_eq cfg 19 _ a).trans (by kernel_rfl)
noncomputable def E_laws_eqJson (a : List DC) : Out :=
 if ((a.getD 0 d0).ii != (a.getD 4 d0).ii) = true then
 .ret [.b false]
 else
 if (!((a.getD 1 d0).ss == (a.getD 5 d0).ss)) = true then
 .ret [.b false]
 else
 (r_laws_eqJsonS [.sl ((a.getD 2 d0).ll), .sl ((a.getD 6 d0).ll)]).bindR fun r1 =>
 if (!((r1.getD 0 d0).bb)) = true then
 .ret [.b false]
 else
 (r_laws_eqStringS [.sl ((a.getD 3 d0).ll), .sl ((a.getD 7 d0).ll)]).bindR fun r2 =>
 if (!((r2.getD 0 d0).bb)) = true then
 .ret [.b false]
 else
 .ret [.b true]
theorem eq_laws_eqJson a : r_laws_eqJson a = E_laws_eqJson a := (Run_eq cfg 20 _ a).trans (by kernel_rfl)
noncomputable def E_laws_heldJson (a : List DC) : Out :=
 (r_laws_heldJsonS [.sl ((a.getD 2 d0).ll), .i ((a.getD 4 d0).ii)]).bindR fun r1 =>
 if (decide ((r1.getD 0 d0).ii < (0 : Int))) = true then
 .ret [.i (-1 : Int)]
 else
 (r_laws_heldStringS [.sl ((a.getD 3 d0).ll), .i ((r1.getD 0 d0).ii)]).bindR fun r2 =>
 if (decide ((r2.getD 0 d0).ii < (0 : Int))) = true then
 .ret [.i (-1 : Int)]
 else
 .ret [.i ((r2.getD 0 d0).ii)]
theorem eq_laws_heldJson a : r_laws_heldJson a = E_laws_heldJson a := (Run_eq cfg 22 _ a).trans (by kernel_rfl)
noncomputable def E_laws_szJsonSL1 : List DC → Out := fun v1 =>
 if (decide ((v1.getD 2 d0).ii < (((v1.getD 0 d0).ll).length : Int))) = true then
 Out.andThenB (if 35 = 35 ∧ 0 ≤ (v1.getD 2 d0).ii ∧ (v1.getD 2 d0).ii < (((v1.getD 0 d0).ll).length : Int) then
 (r_laws_szJson [.i (((((v1.getD 0 d0).ll).getD ((v1.getD 2 d0).ii).toNat []).getD 0 d0).ii), .s (((((v1.getD 0 d0).ll).getD ((v1.getD 2 d0).ii).toNat []).getD 1 d0).ss), .sl (((((v1.getD 0 d0).ll).getD ((v1.getD 2 d0).ii).toNat []).getD 2 d0).ll), .sl (((((v1.getD 0 d0).ll).getD ((v1.getD 2 d0).ii).toNat []).getD 3 d0).ll), .i ((v1.getD 1 d0).ii)]).bindR fun r2 =>
 if (decide ((r2.getD 0 d0).ii < (0 : Int))) = true then
 .ret [.i (-1 : Int)]
 else
 .norm [.sl ((v1.getD 0 d0).ll), .i ((r2.getD 0 d0).ii), .i ((v1.getD 2 d0).ii)]
 else
 .fail) 1 fun v3 =>
 .norm [.sl ((v3.getD 0 d0).ll), .i ((v3.getD 1 d0).ii), .i (IntKind.i64.wrap ((v3.getD 2 d0).ii + (1 : Int)))]
 else
 .ex 0 [.i ((v1.getD 1 d0).ii)]
noncomputable def E_laws_szJsonS (a : List DC) : Out :=
 if (decide ((IntKind.i64.wrap ((a.getD 1 d0).ii - (((a.getD 0 d0).ll).length : Int))) < (0 : Int))) = true then
 .ret [.i (-1 : Int)]
 else
 Out.andThenB (Loop E_laws_szJsonSL1 [.sl ((a.getD 0 d0).ll), .i (IntKind.i64.wrap ((a.getD 1 d0).ii - (((a.getD 0 d0).ll).length : Int))), .i (0 : Int)]) 0 fun v4 =>
 .ret [.i ((v4.getD 0 d0).ii)]
theorem eq_laws_szJsonS a : r_laws_szJsonS a = E_laws_szJsonS a := (Run_eq cfg 43 _ a).trans (by kernel_rfl)
noncomputable def E_laws_szStringSL1 : List DC → Out := fun v1 =>
 if (decide ((v1.getD 2 d0).ii < (((v1.getD 0 d0).ll).length : Int))) = true then
 Out.andThenB (if 9 = 9 ∧ 0 ≤ (v1.getD 2 d0).ii ∧ (v1.getD 2 d0).ii < (((v1.getD 0 d0).ll).length : Int) then
 if (decide ((IntKind.i64.wrap ((v1.getD 1 d0).ii - ((((((v1.getD 0 d0).ll).getD ((v1.getD 2 d0).ii).toNat []).getD 0 d0).ss).length : Int))) < (0 : Int))) = true then
 .ret [.i (-1 : Int)]
 else
 .norm [.sl ((v1.getD 0 d0).ll), .i (IntKind.i64.wrap ((v1.getD 1 d0).ii - ((((((v1.getD 0 d0).ll).getD ((v1.getD 2 d0).ii).toNat []).getD 0 d0).ss).length : Int))), .i ((v1.getD 2 d0).ii)]
 else
 .fail) 1 fun v2 =>
 .norm [.sl ((v2.getD 0 d0).ll), .i ((v2.getD 1 d0).ii), .i (IntKind.i64.wrap ((v2.getD 2 d0).ii + (1 : Int)))]
 else
 .ex 0 [.i ((v1.getD 1 d0).ii)]
noncomputable def E_laws_szStringS (a : List DC) : Out :=
 if (decide ((IntKind.i64.wrap ((a.getD 1 d0).ii - (((a.getD 0 d0).ll).length : Int))) < (0 : Int))) = true then
 .ret [.i (-1 : Int)]
 else
 Out.andThenB (Loop E_laws_szStringSL1 [.sl ((a.getD 0 d0).ll), .i (IntKind.i64.wrap ((a.getD 1 d0).ii - (((a.getD 0 d0).ll).length : Int))), .i (0 : Int)]) 0 fun v3 =>
 .ret [.i ((v3.getD 0 d0).ii)]
theorem eq_laws_szStringS a : r_laws_szStringS a = E_laws_szStringS a := (Run_eq cfg 44 _ a).trans (by kernel_rfl)
noncomputable def E_laws_toJsonSL1 : List DC → Out := fun v1 =>
 if (decide ((v1.getD 2 d0).ii < (((v1.getD 0 d0).ll).length : Int))) = true then
 Out.andThenB (if 35 = 35 ∧ 0 ≤ (v1.getD 2 d0).ii ∧ (v1.getD 2 d0).ii < (((v1.getD 0 d0).ll).length : Int) then
 (r_laws_toJson [.i (((((v1.getD 0 d0).ll).getD ((v1.getD 2 d0).ii).toNat []).getD 0 d0).ii), .s (((((v1.getD 0 d0).ll).getD ((v1.getD 2 d0).ii).toNat []).getD 1 d0).ss), .sl (((((v1.getD 0 d0).ll).getD ((v1.getD 2 d0).ii).toNat []).getD 2 d0).ll), .sl (((((v1.getD 0 d0).ll).getD ((v1.getD 2 d0).ii).toNat []).getD 3 d0).ll)]).bindR fun r2 =>
 if 39 = 39 ∧ 0 ≤ (v1.getD 2 d0).ii ∧ (v1.getD 2 d0).ii < (((v1.getD 1 d0).ll).length : Int) then
 .norm [.sl ((v1.getD 0 d0).ll), .sl (((v1.getD 1 d0).ll).set (((v1.getD 2 d0).ii).toNat) (setRunD (((v1.getD 1 d0).ll).getD (((v1.getD 2 d0).ii).toNat) []) 0 [DC.i ((r2.getD 0 d0).ii), DC.s ((r2.getD 1 d0).ss), DC.sl ((r2.getD 2 d0).ll), DC.sl ((r2.getD 3 d0).ll)])), .i ((v1.getD 2 d0).ii)]
 else
 .fail
 else
 .fail) 1 fun v3 =>
 .norm [.sl ((v3.getD 0 d0).ll), .sl ((v3.getD 1 d0).ll), .i (IntKind.i64.wrap ((v3.getD 2 d0).ii + (1 : Int)))]
 else
 .ex 0 [.sl ((v1.getD 1 d0).ll)]
noncomputable def E_laws_toJsonS (a : List DC) : Out :=
 if 0 ≤ (((a.getD 0 d0).ll).length : Int) ∧ (((a.getD 0 d0).ll).length : Int) < (LIM : Int) ∧ (((a.getD 0 d0).ll).length : Int) = (((a.getD 0 d0).ll).length : Int) ∧ 72 ≤ 1024 ∧ 0 < 4 ∧ dp 39 = false then
 Out.andThenB (Loop E_laws_toJsonSL1 [.sl ((a.getD 0 d0).ll), .sl (List.replicate (((a.getD 0 d0).ll).length : Int).toNat [DC.i 0, DC.s [], DC.sl [], DC.sl []]), .i (0 : Int)]) 0 fun v4 =>
 .ret [.sl ((v4.getD 0 d0).ll)]
 else
 .fail
theorem eq_laws_toJsonS a : r_laws_toJsonS a = E_laws_toJsonS a := (Run_eq cfg 47 _ a).trans (by kernel_rfl)
noncomputable def E_laws_toStringSL1 : List DC → Out := fun v1 =>
 if (decide ((v1.getD 2 d0).ii < (((v1.getD 0 d0).ll).length : Int))) = true then
 Out.andThenB (if 9 = 9 ∧ 0 ≤ (v1.getD 2 d0).ii ∧ (v1.getD 2 d0).ii < (((v1.getD 0 d0).ll).length : Int) then
 if 9 = 9 ∧ 0 ≤ (v1.getD 2 d0).ii ∧ (v1.getD 2 d0).ii < (((v1.getD 1 d0).ll).length : Int) then
 .norm [.sl ((v1.getD 0 d0).ll), .sl (((v1.getD 1 d0).ll).set (((v1.getD 2 d0).ii).toNat) (setRunD (((v1.getD 1 d0).ll).getD (((v1.getD 2 d0).ii).toNat) []) 0 [DC.s (((((v1.getD 0 d0).ll).getD ((v1.getD 2 d0).ii).toNat []).getD 0 d0).ss)])), .i ((v1.getD 2 d0).ii)]
 else
 .fail
 else
 .fail) 1 fun v2 =>
 .norm [.sl ((v2.getD 0 d0).ll), .sl ((v2.getD 1 d0).ll), .i (IntKind.i64.wrap ((v2.getD 2 d0).ii + (1 : Int)))]
 else
 .ex 0 [.sl ((v1.getD 1 d0).ll)]
noncomputable def E_laws_toStringS (a : List DC) : Out :=
 if 0 ≤ (((a.getD 0 d0).ll).length : Int) ∧ (((a.getD 0 d0).ll).length : Int) < (LIM : Int) ∧ (((a.getD 0 d0).ll).length : Int) = (((a.getD 0 d0).ll).length : Int) ∧ 16 ≤ 1024 ∧ 0 < 1 ∧ dp 9 = false then
 Out.andThenB (Loop E_laws_toStringSL1 [.sl ((a.getD 0 d0).ll), .sl (List.replicate (((a.getD 0 d0).ll).length : Int).toNat [DC.s []]), .i (0 : Int)]) 0 fun v3 =>
 .ret [.sl ((v3.getD 0 d0).ll)]
 else
 .fail
theorem eq_laws_toStringS a : r_laws_toStringS a = E_laws_toStringS a := (Run_eq cfg 48 _ a).trans (by kernel_rfl)
noncomputable def E_spec_l22GetL1 : List DC → Out := fun v1 =>
 Out.andThen (if (decide ((v1.getD 1 d0).ii < (((v1.getD 5 d0).ll).length : Int))) = true then
 if (decide ((v1.getD 1 d0).ii < (((v1.getD 4 d0).ll).length : Int))) = true then
 .norm [.s ((v1.getD 0 d0).ss), .i ((v1.getD 1 d0).ii), .b ((v1.getD 2 d0).ii == (7 : Int)), .i ((v1.getD 2 d0).ii), .s ((v1.getD 3 d0).ss), .sl ((v1.getD 4 d0).ll), .sl ((v1.getD 5 d0).ll), .i ((v1.getD 6 d0).ii), .s ((v1.getD 7 d0).ss)]
 else
 .norm [.s ((v1.getD 0 d0).ss), .i ((v1.getD 1 d0).ii), .b false, .i ((v1.getD 2 d0).ii), .s ((v1.getD 3 d0).ss), .sl ((v1.getD 4 d0).ll), .sl ((v1.getD 5 d0).ll), .i ((v1.getD 6 d0).ii), .s ((v1.getD 7 d0).ss)]
 else
 .norm [.s ((v1.getD 0 d0).ss), .i ((v1.getD 1 d0).ii), .b false, .i ((v1.getD 2 d0).ii), .s ((v1.getD 3 d0).ss), .sl ((v1.getD 4 d0).ll), .sl ((v1.getD 5 d0).ll), .i ((v1.getD 6 d0).ii), .s ((v1.getD 7 d0).ss)]) fun v2 =>
 if (v2.getD 2 d0).bb = true then
 Out.andThenB (if 9 = 9 ∧ 0 ≤ (v2.getD 1 d0).ii ∧ (v2.getD 1 d0).ii < (((v2.getD 6 d0).ll).length : Int) then
 if (((((v2.getD 6 d0).ll).getD ((v2.getD 1 d0).ii).toNat []).getD 0 d0).ss == (v2.getD 0 d0).ss) = true then
 if 39 = 39 ∧ 0 ≤ (v2.getD 1 d0).ii ∧ (v2.getD 1 d0).ii < (((v2.getD 5 d0).ll).length : Int) then
 .ret [.i (((((v2.getD 5 d0).ll).getD ((v2.getD 1 d0).ii).toNat []).getD 0 d0).ii), .s (((((v2.getD 5 d0).ll).getD ((v2.getD 1 d0).ii).toNat []).getD 1 d0).ss), .sl (((((v2.getD 5 d0).ll).getD ((v2.getD 1 d0).ii).toNat []).getD 2 d0).ll), .sl (((((v2.getD 5 d0).ll).getD ((v2.getD 1 d0).ii).toNat []).getD 3 d0).ll), .b true]
 else
 .fail
 else
 .norm [.s ((v2.getD 0 d0).ss), .i ((v2.getD 1 d0).ii), .i ((v2.getD 3 d0).ii), .s ((v2.getD 4 d0).ss), .sl ((v2.getD 5 d0).ll), .sl ((v2.getD 6 d0).ll), .i ((v2.getD 7 d0).ii), .s ((v2.getD 8 d0).ss)]
 else
 .fail) 1 fun v3 =>
 .norm [.s ((v3.getD 0 d0).ss), .i (IntKind.i64.wrap ((v3.getD 1 d0).ii + (1 : Int))), .i ((v3.getD 2 d0).ii), .s ((v3.getD 3 d0).ss), .sl ((v3.getD 4 d0).ll), .sl ((v3.getD 5 d0).ll), .i ((v3.getD 6 d0).ii), .s ((v3.getD 7 d0).ss)]
 else
 .ex 0 [.i ((v2.getD 7 d0).ii), .s ((v2.getD 8 d0).ss)]
noncomputable def E_spec_l22Get (a : List DC) : Out :=
 Out.andThenB (Loop E_spec_l22GetL1 [.s ((a.getD 4 d0).ss), .i (0 : Int), .i ((a.getD 0 d0).ii), .s ((a.getD 1 d0).ss), .sl ((a.getD 2 d0).ll), .sl ((a.getD 3 d0).ll), .i (0 : Int), .s []]) 0 fun v4 =>
 .ret [.i (0 : Int), .s [], .sl [], .sl [], .b false]
theorem eq_spec_l22Get a : r_spec_l22Get a = E_spec_l22Get a := (Run_eq cfg 45 _ a).trans (by kernel_rfl)
noncomputable def E_spec_l22CopyL1 : List DC → Out := fun v4 =>
 if (decide ((v4.getD 0 d0).ii < (((v4.getD 3 d0).ll).length : Int))) = true then
 Out.andThenB (if 39 = 39 ∧ 0 ≤ (v4.getD 0 d0).ii ∧ (v4.getD 0 d0).ii < (((v4.getD 3 d0).ll).length : Int) then
 (r_spec_l22Copy [.i (((((v4.getD 3 d0).ll).getD ((v4.getD 0 d0).ii).toNat []).getD 0 d0).ii), .s (((((v4.getD 3 d0).ll).getD ((v4.getD 0 d0).ii).toNat []).getD 1 d0).ss), .sl (((((v4.getD 3 d0).ll).getD ((v4.getD 0 d0).ii).toNat []).getD 2 d0).ll), .sl (((((v4.getD 3 d0).ll).getD ((v4.getD 0 d0).ii).toNat []).getD 3 d0).ll)]).bindR fun r5 =>
 if ((v4.getD 9 d0).ll).length + [[DC.i ((r5.getD 0 d0).ii), DC.s ((r5.getD 1 d0).ss), DC.sl ((r5.getD 2 d0).ll), DC.sl ((r5.getD 3 d0).ll)]].length < LIM ∧ 37 = 37 then
 .norm [.i ((v4.getD 0 d0).ii), .i ((v4.getD 1 d0).ii), .s ((v4.getD 2 d0).ss), .sl ((v4.getD 3 d0).ll), .sl ((v4.getD 4 d0).ll), .i ((v4.getD 5 d0).ii), .s ((v4.getD 6 d0).ss), .i ((v4.getD 7 d0).ii), .s ((v4.getD 8 d0).ss), .sl (((v4.getD 9 d0).ll) ++ [[DC.i ((r5.getD 0 d0).ii), DC.s ((r5.getD 1 d0).ss), DC.sl ((r5.getD 2 d0).ll), DC.sl ((r5.getD 3 d0).ll)]]), .sl ((v4.getD 10 d0).ll)]
 else
 .fail
 else
 .fail) 1 fun v6 =>
 .norm [.i (IntKind.i64.wrap ((v6.getD 0 d0).ii + (1 : Int))), .i ((v6.getD 1 d0).ii), .s ((v6.getD 2 d0).ss), .sl ((v6.getD 3 d0).ll), .sl ((v6.getD 4 d0).ll), .i ((v6.getD 5 d0).ii), .s ((v6.getD 6 d0).ss), .i ((v6.getD 7 d0).ii), .s ((v6.getD 8 d0).ss), .sl ((v6.getD 9 d0).ll), .sl ((v6.getD 10 d0).ll)]
 else
 .ex 0 [.i ((v4.getD 5 d0).ii), .s ((v4.getD 6 d0).ss), .i ((v4.getD 7 d0).ii), .s ((v4.getD 8 d0).ss), .sl ((v4.getD 9 d0).ll), .sl ((v4.getD 10 d0).ll)]
noncomputable def E_spec_l22Copy (a : List DC) : Out :=
 if ([] : List (List DC)).length + ((a.getD 3 d0).ll).length < LIM then
 Out.andThenB (Loop E_spec_l22CopyL1 [.i (0 : Int), .i ((a.getD 0 d0).ii), .s ((a.getD 1 d0).ss), .sl ((a.getD 2 d0).ll), .sl ((a.getD 3 d0).ll), .i (0 : Int), .s [], .i ((a.getD 0 d0).ii), .s ((a.getD 1 d0).ss), .sl [], .sl (([] : List (List DC)) ++ ((a.getD 3 d0).ll))]) 0 fun v7 =>
 .ret [.i ((v7.getD 2 d0).ii), .s ((v7.getD 3 d0).ss), .sl ((v7.getD 4 d0).ll), .sl ((v7.getD 5 d0).ll)]
 else
 .fail
theorem eq_spec_l22Copy a : r_spec_l22Copy a = E_spec_l22Copy a := (Run_eq cfg 46 _ a).trans (by kernel_rfl)
noncomputable def E_impl_jsonPart (a : List DC) : Out :=
 (r_slices_Index_string [.sl ((a.getD 3 d0).ll), .s ((a.getD 4 d0).ss)]).bindR fun r1 =>
 Out.andThen (if ((a.getD 0 d0).ii != (7 : Int)) = true then
 .norm [.i ((r1.getD 0 d0).ii), .b true, .i ((a.getD 0 d0).ii), .s ((a.getD 1 d0).ss), .sl ((a.getD 2 d0).ll), .sl ((a.getD 3 d0).ll), .i (0 : Int), .s []]
 else
 (r_impl_in [.i ((r1.getD 0 d0).ii), .i (0 : Int), .i (IntKind.i64.wrap ((((a.getD 2 d0).ll).length : Int) - (1 : Int)))]).bindR fun r2 =>
 .norm [.i ((r1.getD 0 d0).ii), .b (!((r2.getD 0 d0).bb)), .i ((a.getD 0 d0).ii), .s ((a.getD 1 d0).ss), .sl ((a.getD 2 d0).ll), .sl ((a.getD 3 d0).ll), .i (0 : Int), .s []]) fun v3 =>
 if (v3.getD 1 d0).bb = true then
 .ret [.i (0 : Int), .s [], .sl [], .sl [], .b false]
 else
 if 39 = 39 ∧ 0 ≤ (v3.getD 0 d0).ii ∧ (v3.getD 0 d0).ii < (((v3.getD 4 d0).ll).length : Int) then
 .ret [.i (((((v3.getD 4 d0).ll).getD ((v3.getD 0 d0).ii).toNat []).getD 0 d0).ii), .s (((((v3.getD 4 d0).ll).getD ((v3.getD 0 d0).ii).toNat []).getD 1 d0).ss), .sl (((((v3.getD 4 d0).ll).getD ((v3.getD 0 d0).ii).toNat []).getD 2 d0).ll), .sl (((((v3.getD 4 d0).ll).getD ((v3.getD 0 d0).ii).toNat []).getD 3 d0).ll), .b true]
 else
 .fail
theorem eq_impl_jsonPart a : r_impl_jsonPart a = E_impl_jsonPart a := (Run_eq cfg 49 _ a).trans (by kernel_rfl)
noncomputable def E_impl_cloneJsonL1 : List DC → Out := fun v5 =>
 if (decide ((v5.getD 2 d0).ii < (v5.getD 1 d0).ii)) = true then
 Out.andThenB (if 39 = 39 ∧ 0 ≤ (v5.getD 2 d0).ii ∧ (v5.getD 2 d0).ii < (((v5.getD 0 d0).ll).length : Int) then
 (r_impl_cloneJson [.i (((((v5.getD 0 d0).ll).getD ((v5.getD 2 d0).ii).toNat []).getD 0 d0).ii), .s (((((v5.getD 0 d0).ll).getD ((v5.getD 2 d0).ii).toNat []).getD 1 d0).ss), .sl (((((v5.getD 0 d0).ll).getD ((v5.getD 2 d0).ii).toNat []).getD 2 d0).ll), .sl (((((v5.getD 0 d0).ll).getD ((v5.getD 2 d0).ii).toNat []).getD 3 d0).ll)]).bindR fun r6 =>
 if ((v5.getD 7 d0).ll).length + [[DC.i ((r6.getD 0 d0).ii), DC.s ((r6.getD 1 d0).ss), DC.sl ((r6.getD 2 d0).ll), DC.sl ((r6.getD 3 d0).ll)]].length < LIM ∧ 37 = 37 then
 .norm [.sl ((v5.getD 0 d0).ll), .i ((v5.getD 1 d0).ii), .i ((v5.getD 2 d0).ii), .i ((v5.getD 3 d0).ii), .s ((v5.getD 4 d0).ss), .i ((v5.getD 5 d0).ii), .s ((v5.getD 6 d0).ss), .sl (((v5.getD 7 d0).ll) ++ [[DC.i ((r6.getD 0 d0).ii), DC.s ((r6.getD 1 d0).ss), DC.sl ((r6.getD 2 d0).ll), DC.sl ((r6.getD 3 d0).ll)]]), .sl ((v5.getD 8 d0).ll)]
 else
 .fail
 else
 .fail) 1 fun v7 =>
 .norm [.sl ((v7.getD 0 d0).ll), .i ((v7.getD 1 d0).ii), .i (IntKind.i64.wrap ((v7.getD 2 d0).ii + (1 : Int))), .i ((v7.getD 3 d0).ii), .s ((v7.getD 4 d0).ss), .i ((v7.getD 5 d0).ii), .s ((v7.getD 6 d0).ss), .sl ((v7.getD 7 d0).ll), .sl ((v7.getD 8 d0).ll)]
 else
 .ex 0 [.i ((v5.getD 3 d0).ii), .s ((v5.getD 4 d0).ss), .i ((v5.getD 5 d0).ii), .s ((v5.getD 6 d0).ss), .sl ((v5.getD 7 d0).ll), .sl ((v5.getD 8 d0).ll)]
noncomputable def E_impl_cloneJson (a : List DC) : Out :=
 (r_slices_Clone_string [.sl ((a.getD 3 d0).ll)]).bindR fun r1 =>
 Out.andThenB (Loop E_impl_cloneJsonL1 [.sl ((a.getD 2 d0).ll), .i (((a.getD 2 d0).ll).length : Int), .i (0 : Int), .i (0 : Int), .s [], .i ((a.getD 0 d0).ii), .s ((a.getD 1 d0).ss), .sl [], .sl ((r1.getD 0 d0).ll)]) 0 fun v8 =>
 .ret [.i ((v8.getD 2 d0).ii), .s ((v8.getD 3 d0).ss), .sl ((v8.getD 4 d0).ll), .sl ((v8.getD 5 d0).ll)]
theorem eq_impl_cloneJson a : r_impl_cloneJson a = E_impl_cloneJson a := (Run_eq cfg 50 _ a).trans (by kernel_rfl)
noncomputable def E_laws_eqJsonSL1 : List DC → Out := fun v1 =>
 if (decide ((v1.getD 2 d0).ii < (((v1.getD 0 d0).ll).length : Int))) = true then
 Out.andThenB (if 39 = 39 ∧ 0 ≤ (v1.getD 2 d0).ii ∧ (v1.getD 2 d0).ii < (((v1.getD 0 d0).ll).length : Int) then
 if 39 = 39 ∧ 0 ≤ (v1.getD 2 d0).ii ∧ (v1.getD 2 d0).ii < (((v1.getD 1 d0).ll).length : Int) then
 (r_laws_eqJson [.i (((((v1.getD 0 d0).ll).getD ((v1.getD 2 d0).ii).toNat []).getD 0 d0).ii), .s (((((v1.getD 0 d0).ll).getD ((v1.getD 2 d0).ii).toNat []).getD 1 d0).ss), .sl (((((v1.getD 0 d0).ll).getD ((v1.getD 2 d0).ii).toNat []).getD 2 d0).ll), .sl (((((v1.getD 0 d0).ll).getD ((v1.getD 2 d0).ii).toNat []).getD 3 d0).ll), .i (((((v1.getD 1 d0).ll).getD ((v1.getD 2 d0).ii).toNat []).getD 0 d0).ii), .s (((((v1.getD 1 d0).ll).getD ((v1.getD 2 d0).ii).toNat []).getD 1 d0).ss), .sl (((((v1.getD 1 d0).ll).getD ((v1.getD 2 d0).ii).toNat []).getD 2 d0).ll), .sl (((((v1.getD 1 d0).ll).getD ((v1.getD 2 d0).ii).toNat []).getD 3 d0).ll)]).bindR fun r2 =>
 if (!((r2.getD 0 d0).bb)) = true then
 .ret [.b false]
 else
 .norm [.sl ((v1.getD 0 d0).ll), .sl ((v1.getD 1 d0).ll), .i ((v1.getD 2 d0).ii)]
 else
 .fail
 else
 .fail) 1 fun v3 =>
 .norm [.sl ((v3.getD 0 d0).ll), .sl ((v3.getD 1 d0).ll), .i (IntKind.i64.wrap ((v3.getD 2 d0).ii + (1 : Int)))]
 else
 .ex 0 []
noncomputable def E_laws_eqJsonS (a : List DC) : Out :=
 if ((((a.getD 0 d0).ll).length : Int) != (((a.getD 1 d0).ll).length : Int)) = true then
 .ret [.b false]
 else
 Out.andThenB (Loop E_laws_eqJsonSL1 [.sl ((a.getD 0 d0).ll), .sl ((a.getD 1 d0).ll), .i (0 : Int)]) 0 fun v4 =>
 .ret [.b true]
theorem eq_laws_eqJsonS a : r_laws_eqJsonS a = E_laws_eqJsonS a := (Run_eq cfg 51 _ a).trans (by kernel_rfl)
noncomputable def E_laws_eqStringSL1 : List DC → Out := fun v1 =>
 if (decide ((v1.getD 2 d0).ii < (((v1.getD 0 d0).ll).length : Int))) = true then
 Out.andThenB (if 9 = 9 ∧ 0 ≤ (v1.getD 2 d0).ii ∧ (v1.getD 2 d0).ii < (((v1.getD 0 d0).ll).length : Int) then
 if 9 = 9 ∧ 0 ≤ (v1.getD 2 d0).ii ∧ (v1.getD 2 d0).ii < (((v1.getD 1 d0).ll).length : Int) then
 if (!(((((v1.getD 0 d0).ll).getD ((v1.getD 2 d0).ii).toNat []).getD 0 d0).ss == ((((v1.getD 1 d0).ll).getD ((v1.getD 2 d0).ii).toNat []).getD 0 d0).ss)) = true then
 .ret [.b false]
 else
 .norm [.sl ((v1.getD 0 d0).ll), .sl ((v1.getD 1 d0).ll), .i ((v1.getD 2 d0).ii)]
 else
 .fail
 else
 .fail) 1 fun v2 =>
 .norm [.sl ((v2.getD 0 d0).ll), .sl ((v2.getD 1 d0).ll), .i (IntKind.i64.wrap ((v2.getD 2 d0).ii + (1 : Int)))]
 else
 .ex 0 []
noncomputable def E_laws_eqStringS (a : List DC) : Out :=
 if ((((a.getD 0 d0).ll).length : Int) != (((a.getD 1 d0).ll).length : Int)) = true then
 .ret [.b false]
 else
 Out.andThenB (Loop E_laws_eqStringSL1 [.sl ((a.getD 0 d0).ll), .sl ((a.getD 1 d0).ll), .i (0 : Int)]) 0 fun v3 =>
 .ret [.b true]
theorem eq_laws_eqStringS a : r_laws_eqStringS a = E_laws_eqStringS a := (Run_eq cfg 11 _ a).trans (by kernel_rfl)
noncomputable def E_laws_heldJsonSL1 : List DC → Out := fun v1 =>
 if (decide ((v1.getD 2 d0).ii < (((v1.getD 0 d0).ll).length : Int))) = true then
 Out.andThenB (if 39 = 39 ∧ 0 ≤ (v1.getD 2 d0).ii ∧ (v1.getD 2 d0).ii < (((v1.getD 0 d0).ll).length : Int) then
 if (((((v1.getD 0 d0).ll).getD ((v1.getD 2 d0).ii).toNat []).getD 0 d0).ii != (v1.getD 1 d0).ii) = true then
 .ret [.i (-1 : Int)]
 else
 if 39 = 39 ∧ 0 ≤ (v1.getD 2 d0).ii ∧ (v1.getD 2 d0).ii < (((v1.getD 0 d0).ll).length : Int) then
 (r_laws_markText [.i (IntKind.i64.wrap ((v1.getD 1 d0).ii + (1 : Int)))]).bindR fun r2 =>
 if (!(((((v1.getD 0 d0).ll).getD ((v1.getD 2 d0).ii).toNat []).getD 1 d0).ss == (r2.getD 0 d0).ss)) = true then
 .ret [.i (-1 : Int)]
 else
 if 39 = 39 ∧ 0 ≤ (v1.getD 2 d0).ii ∧ (v1.getD 2 d0).ii < (((v1.getD 0 d0).ll).length : Int) then
 (r_laws_heldJsonS [.sl (((((v1.getD 0 d0).ll).getD ((v1.getD 2 d0).ii).toNat []).getD 2 d0).ll), .i (IntKind.i64.wrap ((IntKind.i64.wrap ((v1.getD 1 d0).ii + (1 : Int))) + (1 : Int)))]).bindR fun r3 =>
 if (decide ((r3.getD 0 d0).ii < (0 : Int))) = true then
 .ret [.i (-1 : Int)]
 else
 if 39 = 39 ∧ 0 ≤ (v1.getD 2 d0).ii ∧ (v1.getD 2 d0).ii < (((v1.getD 0 d0).ll).length : Int) then
 (r_laws_heldStringS [.sl (((((v1.getD 0 d0).ll).getD ((v1.getD 2 d0).ii).toNat []).getD 3 d0).ll), .i ((r3.getD 0 d0).ii)]).bindR fun r4 =>
 if (decide ((r4.getD 0 d0).ii < (0 : Int))) = true then
 .ret [.i (-1 : Int)]
 else
 .norm [.sl ((v1.getD 0 d0).ll), .i ((r4.getD 0 d0).ii), .i ((v1.getD 2 d0).ii)]
 else
 .fail
 else
 .fail
 else
 .fail
 else
 .fail) 1 fun v5 =>
 .norm [.sl ((v5.getD 0 d0).ll), .i ((v5.getD 1 d0).ii), .i (IntKind.i64.wrap ((v5.getD 2 d0).ii + (1 : Int)))]
 else
 .ex 0 [.i ((v1.getD 1 d0).ii)]
noncomputable def E_laws_heldJsonS (a : List DC) : Out :=
 Out.andThenB (Loop E_laws_heldJsonSL1 [.sl ((a.getD 0 d0).ll), .i ((a.getD 1 d0).ii), .i (0 : Int)]) 0 fun v6 =>
 .ret [.i ((v6.getD 0 d0).ii)]
theorem eq_laws_heldJsonS a : r_laws_heldJsonS a = E_laws_heldJsonS a := (Run_eq cfg 53 _ a).trans (by kernel_rfl)
noncomputable def E_laws_heldStringSL1 : List DC → Out := fun v1 =>
 if (decide ((v1.getD 2 d0).ii < (((v1.getD 0 d0).ll).length : Int))) = true then
 Out.andThenB (if 9 = 9 ∧ 0 ≤ (v1.getD 2 d0).ii ∧ (v1.getD 2 d0).ii < (((v1.getD 0 d0).ll).length : Int) then
 (r_laws_markText [.i ((v1.getD 1 d0).ii)]).bindR fun r2 =>
 if (!(((((v1.getD 0 d0).ll).getD ((v1.getD 2 d0).ii).toNat []).getD 0 d0).ss == (r2.getD 0 d0).ss)) = true then
 .ret [.i (-1 : Int)]
 else
 .norm [.sl ((v1.getD 0 d0).ll), .i (IntKind.i64.wrap ((v1.getD 1 d0).ii + (1 : Int))), .i ((v1.getD 2 d0).ii)]
 else
 .fail) 1 fun v3 =>
 .norm [.sl ((v3.getD 0 d0).ll), .i ((v3.getD 1 d0).ii), .i (IntKind.i64.wrap ((v3.getD 2 d0).ii + (1 : Int)))]
 else
 .ex 0 [.i ((v1.getD 1 d0).ii)]
noncomputable def E_laws_heldStringS (a : List DC) : Out :=
 Out.andThenB (Loop E_laws_heldStringSL1 [.sl ((a.getD 0 d0).ll), .i ((a.getD 1 d0).ii), .i (0 : Int)]) 0 fun v4 =>
 .ret [.i ((v4.getD 0 d0).ii)]
theorem eq_laws_heldStringS a : r_laws_heldStringS a = E_laws_heldStringS a := (Run_eq cfg 15 _ a).trans (by kernel_rfl)
noncomputable def E_slices_Index_stringL1 : List DC → Out := fun v1 =>
 if (decide ((v1.getD 3 d0).ii < (v1.getD 2 d0).ii)) = true then
 Out.andThenB (if 9 = 9 ∧ 0 ≤ (v1.getD 3 d0).ii ∧ (v1.getD 3 d0).ii < (((v1.getD 0 d0).ll).length : Int) then
 if ((v1.getD 1 d0).ss == ((((v1.getD 0 d0).ll).getD ((v1.getD 3 d0).ii).toNat []).getD 0 d0).ss) = true then
 .ret [.i ((v1.getD 3 d0).ii)]
 else
 .norm [.sl ((v1.getD 0 d0).ll), .s ((v1.getD 1 d0).ss), .i ((v1.getD 2 d0).ii), .i ((v1.getD 3 d0).ii)]
 else
 .fail) 1 fun v2 =>
 .norm [.sl ((v2.getD 0 d0).ll), .s ((v2.getD 1 d0).ss), .i ((v2.getD 2 d0).ii), .i (IntKind.i64.wrap ((v2.getD 3 d0).ii + (1 : Int)))]
 else
 .ex 0 []
noncomputable def E_slices_Index_string (a : List DC) : Out :=
 Out.andThenB (Loop E_slices_Index_stringL1 [.sl ((a.getD 0 d0).ll), .s ((a.getD 1 d0).ss), .i (((a.getD 0 d0).ll).length : Int), .i (0 : Int)]) 0 fun v3 =>
 .ret [.i (-1 : Int)]
theorem eq_slices_Index_string a : r_slices_Index_string a = E_slices_Index_string a := (Run_eq cfg 85 _ a).trans (by kernel_rfl)
noncomputable def E_impl_in (a : List DC) : Out :=
 Out.andThen (if (decide ((a.getD 0 d0).ii ≥ (a.getD 1 d0).ii)) = true then
 .norm [.b (decide ((a.getD 0 d0).ii ≤ (a.getD 2 d0).ii))]
 else
 .norm [.b false]) fun v1 =>
 .ret [.b ((v1.getD 0 d0).bb)]
theorem eq_impl_in a : r_impl_in a = E_impl_in a := (Run_eq cfg 86 _ a).trans (by kernel_rfl)
noncomputable def E_slices_Clone_string (a : List DC) : Out := match primC 9 h_slices_Clone_string a with | some r => .ret r | none => .fail
theorem eq_slices_Clone_string a : r_slices_Clone_string a = E_slices_Clone_string a := (Run_eq cfg 87 h_slices_Clone_string a).trans (by kernel_rfl)
theorem at_slices_Clone_string (l : List (List DC)) (hl : l.length ≤ 4194304) : r_slices_Clone_string [.sl l] = .ret [.sl l] := by
  have h : l.length < LIM := by unfold LIM; omega
  have k : primC 9 h_slices_Clone_string [.sl l] = some [.sl l] := by
    show (if 9 = 9 ∧ l.length < LIM then some [DC.sl l] else none) = _
    rw [if_pos ⟨rfl, h⟩]
  rw [eq_slices_Clone_string, E_slices_Clone_string, k]
theorem eq_laws_markText a : r_laws_markText a = E_laws_markText a := (Run_eq cfg 40 _ a).trans (by kernel_rfl)
theorem szS_String (ns : List (List UInt8)) (ok : (DC.sl (ns.map S1)).ok) (left : Int) (h0 : 0 ≤ left) (h1 : left ≤ 1048576) : r_laws_szStringS [.sl (ns.map S1), .i left] = .ret [.i (szR left (DC.wt (.sl (ns.map S1))))] := by
  rw [DC.ok, List.length_map] at ok
  obtain ⟨hl, ok⟩ := ok
  rw [eq_laws_szStringS]
  simp only [E_laws_szStringS, List.getD_cons_zero, List.getD_cons_succ, DC.bb_b, DC.ii_i, DC.ss_s, DC.ll_sl]
  refine szS_all hl (fun i hi left h0 h1 => ?_) (fun left => ?_) h0 h1
  · have hn := okV_mem ok (S1 ns[i]) (List.mem_map_of_mem (List.getElem_mem hi))
    simp only [S1, okL, DC.ok] at hn
    have hw : IntKind.i64.wrap (left - (ns[i].length : Int)) = left - (ns[i].length : Int) := wrap64 (by omega) (by omega)
    have hc1 : (i : Int) < (ns.length : Int) := by omega
    simp only [E_laws_szStringSL1, List.getD_cons_zero, List.getD_cons_succ, DC.bb_b, DC.ii_i, DC.ss_s, DC.ll_sl, Int.toNat_natCast, List.length_map, map_getD hi, S1, wtL, DC.wt, hw]
    by_cases hc : left < (ns[i].length : Int)
    · simp [hi, hc1, hc, show left - (ns[i].length : Int) < 0 by omega]
    · simp [hi, hc1, hc, show ¬ left - (ns[i].length : Int) < 0 by omega, wrap_succ hi hl]
  · simp [E_laws_szStringSL1]
theorem toS_String (ns : List (List UInt8)) (hl : ns.length ≤ 1048576) : r_laws_toStringS [.sl (ns.map S1)] = .ret [.sl (ns.map S1)] := by
  rw [eq_laws_toStringS]
  simp only [E_laws_toStringS, List.getD_cons_zero, List.getD_cons_succ, DC.bb_b, DC.ii_i, DC.ss_s, DC.ll_sl]
  rw [if_pos ⟨by omega, by rw [List.length_map]; exact lim_of hl, trivial, by omega, by omega, rfl⟩, Int.toNat_natCast, List.length_map, show (0 : Int) = ((0 : Nat) : Int) from rfl, toS_loop hl (fun i hi cur h1 h2 => ?_) (fun cur => ?_)]
  · rfl
  · have hc1 : (i : Int) < (ns.length : Int) := by omega
    simp only [E_laws_toStringSL1, List.getD_cons_zero, List.getD_cons_succ, DC.bb_b, DC.ii_i, DC.ss_s, DC.ll_sl, Int.toNat_natCast, List.length_map, map_getD hi, h1, h2, S1]
    simp [hi, hc1, wrap_succ hi (show ns.length ≤ 9223372036854775807 by omega), setRunD]
  · simp [E_laws_toStringSL1]
theorem eqS_String (ns : List (List UInt8)) (hl : ns.length ≤ 1048576) : r_laws_eqStringS [.sl (ns.map S1), .sl (ns.map S1)] = .ret [.b true] := by
  rw [eq_laws_eqStringS]
  simp only [E_laws_eqStringS, List.getD_cons_zero, List.getD_cons_succ, DC.bb_b, DC.ii_i, DC.ss_s, DC.ll_sl]
  refine eqS_all (fun i hi => ?_) ?_
  · rw [List.length_map] at hi
    have hc1 : (i : Int) < (ns.length : Int) := by omega
    simp only [E_laws_eqStringSL1, List.getD_cons_zero, List.getD_cons_succ, DC.bb_b, DC.ii_i, DC.ss_s, DC.ll_sl, Int.toNat_natCast, List.length_map, map_getD hi, S1]
    simp [hi, hc1, wrap_succ hi (show ns.length ≤ 9223372036854775807 by omega)]
  · simp [E_laws_eqStringSL1]
theorem wsum_Json (v : TJson) : wtL (TJson.enc v) = v.text.length + DC.wt (.sl (v.items.map TJson.enc)) + DC.wt (.sl (v.names.map S1)) := by
  simp only [TJson.enc_eq, wtL, DC.wt]
  try omega
theorem szS_Json' (vs : List TJson) (hs : ∀ v ∈ vs, okL (TJson.enc v) → ∀ left : Int, 0 ≤ left → left ≤ 1048576 → r_laws_szJson [.i v.kind, .s v.text, .sl (v.items.map TJson.enc), .sl (v.names.map S1), .i left] = .ret [.i (szR left (wtL (TJson.enc v)))]) (ok : (DC.sl (vs.map TJson.enc)).ok) (left : Int) (h0 : 0 ≤ left) (h1 : left ≤ 1048576) : r_laws_szJsonS [.sl (vs.map TJson.enc), .i left] = .ret [.i (szR left (DC.wt (.sl (vs.map TJson.enc))))] := by
  rw [DC.ok, List.length_map] at ok
  obtain ⟨hl, ok⟩ := ok
  rw [eq_laws_szJsonS]
  simp only [E_laws_szJsonS, List.getD_cons_zero, List.getD_cons_succ, DC.bb_b, DC.ii_i, DC.ss_s, DC.ll_sl]
  refine szS_all hl (fun i hi left h0 h1 => ?_) (fun left => ?_) h0 h1
  · have key := hs vs[i] (List.getElem_mem hi) (okV_mem ok _ (List.mem_map_of_mem (List.getElem_mem hi))) left h0 h1
    generalize wtL (TJson.enc vs[i]) = w at key ⊢
    have hc1 : (i : Int) < (vs.length : Int) := by omega
    simp only [E_laws_szJsonSL1, List.getD_cons_zero, List.getD_cons_succ, DC.bb_b, DC.ii_i, DC.ss_s, DC.ll_sl, Int.toNat_natCast, List.length_map, map_getD hi, TJson.enc_eq, key, Out.bindR_ret]
    by_cases hc : left < (w : Int)
    · simp [hi, hc1, hc, szR_lt hc]
    · simp [hi, hc1, hc, szR_ge hc, show ¬ left - (w : Int) < 0 by omega, wrap_succ hi hl]
  · simp [E_laws_szJsonSL1]
theorem sz_Json (v : TJson) : okL (TJson.enc v) → ∀ left : Int, 0 ≤ left → left ≤ 1048576 → r_laws_szJson [.i v.kind, .s v.text, .sl (v.items.map TJson.enc), .sl (v.names.map S1), .i left] = .ret [.i (szR left (wtL (TJson.enc v)))] := by
  induction v using TJson.ind with | h v ih =>
  intro ok left h0 h1
  rw [TJson.enc_eq] at ok
  simp only [okL] at ok
  rw [eq_laws_szJson]
  simp only [E_laws_szJson, List.getD_cons_zero, List.getD_cons_succ, DC.bb_b, DC.ii_i, DC.ss_s, DC.ll_sl]
  rw [wsum_Json]
  have b0 : v.text.length ≤ 9223372036854775807 := by simpa only [DC.ok] using ok.2.1
  rw [show IntKind.i64.wrap (left - (v.text.length : Int)) = left - (v.text.length : Int) from wrap64 (by omega) (by omega)]
  by_cases c0 : left < ((v.text.length : Nat) : Int)
  · have c0' : left - ((v.text.length : Nat) : Int) < 0 := by omega
    simp only [c0', decide_true, if_true]
    try rw [szR_lt (by omega)]
  have c0' : ¬ left - ((v.text.length : Nat) : Int) < 0 := by omega
  simp only [c0', decide_false, Bool.false_eq_true, if_false]
  rw [szS_Json' v.items (fun x hx => ih x hx) ok.2.2.1 ((left - ((v.text.length : Nat) : Int))) (by omega) (by omega)]
  simp only [Out.bindR_ret, List.getD_cons_zero, List.getD_cons_succ, DC.bb_b, DC.ii_i, DC.ss_s, DC.ll_sl]
  by_cases c1 : (left - ((v.text.length : Nat) : Int)) < ((DC.wt (.sl (v.items.map TJson.enc)) : Nat) : Int)
  · rw [szR_lt c1]
    simp only [show (-1 : Int) < 0 by omega, decide_true, if_true]
    try rw [szR_lt (by omega)]
  rw [szR_ge c1]
  have c1' : ¬ (left - ((v.text.length : Nat) : Int)) - ((DC.wt (.sl (v.items.map TJson.enc)) : Nat) : Int) < 0 := by omega
  simp only [c1', decide_false, Bool.false_eq_true, if_false]
  rw [szS_String v.names ok.2.2.2.1 (((left - ((v.text.length : Nat) : Int)) - ((DC.wt (.sl (v.items.map TJson.enc)) : Nat) : Int))) (by omega) (by omega)]
  simp only [Out.bindR_ret, List.getD_cons_zero, List.getD_cons_succ, DC.bb_b, DC.ii_i, DC.ss_s, DC.ll_sl]
  by_cases c2 : ((left - ((v.text.length : Nat) : Int)) - ((DC.wt (.sl (v.items.map TJson.enc)) : Nat) : Int)) < ((DC.wt (.sl (v.names.map S1)) : Nat) : Int)
  · rw [szR_lt c2]
    simp only [show (-1 : Int) < 0 by omega, decide_true, if_true]
    try rw [szR_lt (by omega)]
  rw [szR_ge c2]
  have c2' : ¬ ((left - ((v.text.length : Nat) : Int)) - ((DC.wt (.sl (v.items.map TJson.enc)) : Nat) : Int)) - ((DC.wt (.sl (v.names.map S1)) : Nat) : Int) < 0 := by omega
  simp only [c2', decide_false, Bool.false_eq_true, if_false]
  first
  | done
  | rw [show szR left (v.text.length + DC.wt (.sl (v.items.map TJson.enc)) + DC.wt (.sl (v.names.map S1))) = (((left - ((v.text.length : Nat) : Int)) - ((DC.wt (.sl (v.items.map TJson.enc)) : Nat) : Int)) - ((DC.wt (.sl (v.names.map S1)) : Nat) : Int)) from (szR_ge (by omega)).trans (by omega)]
theorem toS_Json' (vs : List TJson) (hs : ∀ v ∈ vs, wtL (TJson.enc v) ≤ 1048576 → r_laws_toJson [.i v.kind, .s v.text, .sl (v.items.map TJson.enc), .sl (v.names.map S1)] = .ret (TJson.enc v)) (hw : DC.wt (.sl (vs.map TJson.enc)) ≤ 1048576) : r_laws_toJsonS [.sl (vs.map TJson.enc)] = .ret [.sl (vs.map TJson.enc)] := by
  rw [DC.wt, List.length_map] at hw
  have hl : vs.length ≤ 1048576 := by omega
  rw [eq_laws_toJsonS]
  simp only [E_laws_toJsonS, List.getD_cons_zero, List.getD_cons_succ, DC.bb_b, DC.ii_i, DC.ss_s, DC.ll_sl]
  rw [if_pos ⟨by omega, by rw [List.length_map]; exact lim_of hl, trivial, by omega, by omega, rfl⟩, Int.toNat_natCast, List.length_map, show (0 : Int) = ((0 : Nat) : Int) from rfl, toS_loop hl (fun i hi cur h1 h2 => ?_) (fun cur => ?_)]
  · rfl
  · have key := hs vs[i] (List.getElem_mem hi) (by have := wtV_mem (List.mem_map_of_mem (f := TJson.enc) (List.getElem_mem hi)); omega)
    have hc1 : (i : Int) < (vs.length : Int) := by omega
    simp only [E_laws_toJsonSL1, List.getD_cons_zero, List.getD_cons_succ, DC.bb_b, DC.ii_i, DC.ss_s, DC.ll_sl, Int.toNat_natCast, List.length_map, map_getD hi, h1, h2, TJson.enc_eq] at key ⊢
    simp only [key, List.getD_cons_zero, List.getD_cons_succ, DC.bb_b, DC.ii_i, DC.ss_s, DC.ll_sl, Out.bindR_ret]
    simp [hi, hc1, wrap_succ hi (show vs.length ≤ 9223372036854775807 by omega), setRunD]
  · simp [E_laws_toJsonSL1]
theorem to_Json (v : TJson) : wtL (TJson.enc v) ≤ 1048576 → r_laws_toJson [.i v.kind, .s v.text, .sl (v.items.map TJson.enc), .sl (v.names.map S1)] = .ret (TJson.enc v) := by
  induction v using TJson.ind with | h v ih =>
  intro hw
  rw [wsum_Json] at hw
  rw [eq_laws_toJson]
  simp only [E_laws_toJson, List.getD_cons_zero, List.getD_cons_succ, DC.bb_b, DC.ii_i, DC.ss_s, DC.ll_sl]
  rw [toS_Json' v.items (fun x hx => ih x hx) (by omega)]
  simp only [Out.bindR_ret, List.getD_cons_zero, List.getD_cons_succ, DC.bb_b, DC.ii_i, DC.ss_s, DC.ll_sl]
  rw [toS_String v.names (by have h := hw; simp only [DC.wt, List.length_map] at h; omega)]
  simp only [Out.bindR_ret, List.getD_cons_zero, List.getD_cons_succ, DC.bb_b, DC.ii_i, DC.ss_s, DC.ll_sl]
  rw [TJson.enc_eq]
theorem eqS_Json' (vs : List TJson) (hs : ∀ v ∈ vs, wtL (TJson.enc v) ≤ 1048576 → r_laws_eqJson [.i v.kind, .s v.text, .sl (v.items.map TJson.enc), .sl (v.names.map S1), .i v.kind, .s v.text, .sl (v.items.map TJson.enc), .sl (v.names.map S1)] = .ret [.b true]) (hw : DC.wt (.sl (vs.map TJson.enc)) ≤ 1048576) : r_laws_eqJsonS [.sl (vs.map TJson.enc), .sl (vs.map TJson.enc)] = .ret [.b true] := by
  rw [DC.wt, List.length_map] at hw
  have hl : vs.length ≤ 1048576 := by omega
  rw [eq_laws_eqJsonS]
  simp only [E_laws_eqJsonS, List.getD_cons_zero, List.getD_cons_succ, DC.bb_b, DC.ii_i, DC.ss_s, DC.ll_sl]
  refine eqS_all (fun i hi => ?_) ?_
  · rw [List.length_map] at hi
    have key := hs vs[i] (List.getElem_mem hi) (by have := wtV_mem (List.mem_map_of_mem (f := TJson.enc) (List.getElem_mem hi)); omega)
    have hc1 : (i : Int) < (vs.length : Int) := by omega
    simp only [E_laws_eqJsonSL1, List.getD_cons_zero, List.getD_cons_succ, DC.bb_b, DC.ii_i, DC.ss_s, DC.ll_sl, Int.toNat_natCast, List.length_map, map_getD hi, TJson.enc_eq] at key ⊢
    simp only [key, List.getD_cons_zero, List.getD_cons_succ, DC.bb_b, DC.ii_i, DC.ss_s, DC.ll_sl, Out.bindR_ret]
    simp [hi, hc1, wrap_succ hi (show vs.length ≤ 9223372036854775807 by omega)]
  · simp [E_laws_eqJsonSL1]
theorem eq_Json (v : TJson) : wtL (TJson.enc v) ≤ 1048576 → r_laws_eqJson [.i v.kind, .s v.text, .sl (v.items.map TJson.enc), .sl (v.names.map S1), .i v.kind, .s v.text, .sl (v.items.map TJson.enc), .sl (v.names.map S1)] = .ret [.b true] := by
  induction v using TJson.ind with | h v ih =>
  intro hw
  rw [wsum_Json] at hw
  rw [eq_laws_eqJson]
  simp only [E_laws_eqJson, List.getD_cons_zero, List.getD_cons_succ, DC.bb_b, DC.ii_i, DC.ss_s, DC.ll_sl, bne_self_eq_false, beq_self_eq_true, Bool.not_true, Bool.false_eq_true, if_false]
  rw [eqS_Json' v.items (fun x hx => ih x hx) (by omega)]
  simp only [Out.bindR_ret, List.getD_cons_zero, List.getD_cons_succ, DC.bb_b, DC.ii_i, DC.ss_s, DC.ll_sl, bne_self_eq_false, beq_self_eq_true, Bool.not_true, Bool.false_eq_true, if_false]
  rw [eqS_String v.names (by have h := hw; simp only [DC.wt, List.length_map] at h; omega)]
  simp only [Out.bindR_ret, List.getD_cons_zero, List.getD_cons_succ, DC.bb_b, DC.ii_i, DC.ss_s, DC.ll_sl, bne_self_eq_false, beq_self_eq_true, Bool.not_true, Bool.false_eq_true, if_false]
theorem mh_String (v : (List UInt8)) : ∀ k : Int, 0 ≤ k → k + 30 * ((1 + wtL (S1 v) : Nat) : Int) < 4611686018427387904 → ∃ (x' : (List UInt8)) (k' : Int), (MarkRow mT mTab ms14 S1 v k x' k' ∧ (∀ (l : List (List DC)) (i : Nat), i < l.length → l.length ≤ 9223372036854775807 → l.getD i [] = S1 x' → E_laws_heldStringSL1 [.sl l, .i k, .i (i : Int)] = .norm [.sl l, .i k', .i ((i + 1 : Nat) : Int)])) ∧ k ≤ k' ∧ k' ≤ k + 30 * ((1 + wtL (S1 v) : Nat) : Int) := by
  intro k h0 hk
  refine ⟨mtx (k), k + 1, ⟨⟨0, fun m hm r => ?_⟩, ?_⟩, by omega, by omega⟩
  · refine ⟨r, ?_⟩
    unfold S1
    refine rowActs_txt (s := mtx (k)) rfl (rowActs_inc (by omega) ?_)
    exact rfl
  · intro l i hi hl hg
    have m0 : E_laws_markText [.i (k)] = .ret [.s (mtx (k))] := mtx_eq (by omega) (by omega)
    have w0 : IntKind.i64.wrap (k + 1) = k + 1 := wrap64 (by omega) (by omega)
    have hc1 : (i : Int) < (l.length : Int) := by omega
    simp only [E_laws_heldStringSL1, List.getD_cons_zero, List.getD_cons_succ, DC.bb_b, DC.ii_i, DC.ss_s, DC.ll_sl, Int.toNat_natCast, hg, S1, m0, w0, eq_laws_markText, Out.bindR_ret]
    simp [hi, hc1, wrap_succ hi hl, m0, w0]
theorem mhS_String' (vs : List (List UInt8)) (hs : ∀ v ∈ vs, ∀ k : Int, 0 ≤ k → k + 30 * ((1 + wtL (S1 v) : Nat) : Int) < 4611686018427387904 → ∃ (x' : (List UInt8)) (k' : Int), (MarkRow mT mTab ms14 S1 v k x' k' ∧ (∀ (l : List (List DC)) (i : Nat), i < l.length → l.length ≤ 9223372036854775807 → l.getD i [] = S1 x' → E_laws_heldStringSL1 [.sl l, .i k, .i (i : Int)] = .norm [.sl l, .i k', .i ((i + 1 : Nat) : Int)])) ∧ k ≤ k' ∧ k' ≤ k + 30 * ((1 + wtL (S1 v) : Nat) : Int)) (k : Int) (h0 : 0 ≤ k) (hk : k + 30 * ((DC.wt (.sl (vs.map S1)) : Nat) : Int) < 4611686018427387904) : ∃ (vs' : List (List UInt8)) (k' : Int), Mk mT mTab 14 (vs.map S1) k (vs'.map S1) k' ∧ k ≤ k' ∧ k' ≤ k + 30 * ((DC.wt (.sl (vs.map S1)) : Nat) : Int) ∧ r_laws_heldStringS [.sl (vs'.map S1), .i k] = .ret [.i k'] := by
  obtain ⟨vs', k', m, b1, b2, c⟩ := mark_all (Q := fun k x' k' => ∀ (l : List (List DC)) (i : Nat), i < l.length → l.length ≤ 9223372036854775807 → l.getD i [] = S1 x' → E_laws_heldStringSL1 [.sl l, .i k, .i (i : Int)] = .norm [.sl l, .i k', .i ((i + 1 : Nat) : Int)]) (f := 14) (ms := ms14) rfl vs hs h0 hk
  refine ⟨vs', k', m, b1, b2, ?_⟩
  have hl : vs.length ≤ DC.wt (.sl (vs.map S1)) := by simp [DC.wt]
  have hc := c.len
  have key : Loop E_laws_heldStringSL1 [.sl (vs'.map S1), .i k, .i (0 : Int)] = .ex 0 [.i k'] := held_loop c (fun l k => by simp [E_laws_heldStringSL1]) [] (by simp only [List.length_nil]; omega)
  rw [eq_laws_heldStringS]
  simp only [E_laws_heldStringS, List.getD_cons_zero, List.getD_cons_succ, DC.bb_b, DC.ii_i, DC.ss_s, DC.ll_sl, key, Out.andThenB]
  rfl
theorem mhS_String (vs : List (List UInt8)) (k : Int) (h0 : 0 ≤ k) (hk : k + 30 * ((DC.wt (.sl (vs.map S1)) : Nat) : Int) < 4611686018427387904) : ∃ (vs' : List (List UInt8)) (k' : Int), Mk mT mTab 14 (vs.map S1) k (vs'.map S1) k' ∧ k ≤ k' ∧ k' ≤ k + 30 * ((DC.wt (.sl (vs.map S1)) : Nat) : Int) ∧ r_laws_heldStringS [.sl (vs'.map S1), .i k] = .ret [.i k'] := mhS_String' vs (fun v _ => mh_String v) k h0 hk
theorem mhS_Json' (vs : List TJson) (hs : ∀ v ∈ vs, ∀ k : Int, 0 ≤ k → k + 30 * ((1 + wtL (TJson.enc v) : Nat) : Int) < 4611686018427387904 → ∃ (x' : TJson) (k' : Int), (MarkRow mT mTab ms52 TJson.enc v k x' k' ∧ (∀ (l : List (List DC)) (i : Nat), i < l.length → l.length ≤ 9223372036854775807 → l.getD i [] = TJson.enc x' → E_laws_heldJsonSL1 [.sl l, .i k, .i (i : Int)] = .norm [.sl l, .i k', .i ((i + 1 : Nat) : Int)])) ∧ k ≤ k' ∧ k' ≤ k + 30 * ((1 + wtL (TJson.enc v) : Nat) : Int)) (k : Int) (h0 : 0 ≤ k) (hk : k + 30 * ((DC.wt (.sl (vs.map TJson.enc)) : Nat) : Int) < 4611686018427387904) : ∃ (vs' : List TJson) (k' : Int), Mk mT mTab 52 (vs.map TJson.enc) k (vs'.map TJson.enc) k' ∧ k ≤ k' ∧ k' ≤ k + 30 * ((DC.wt (.sl (vs.map TJson.enc)) : Nat) : Int) ∧ r_laws_heldJsonS [.sl (vs'.map TJson.enc), .i k] = .ret [.i k'] := by
  obtain ⟨vs', k', m, b1, b2, c⟩ := mark_all (Q := fun k x' k' => ∀ (l : List (List DC)) (i : Nat), i < l.length → l.length ≤ 9223372036854775807 → l.getD i [] = TJson.enc x' → E_laws_heldJsonSL1 [.sl l, .i k, .i (i : Int)] = .norm [.sl l, .i k', .i ((i + 1 : Nat) : Int)]) (f := 52) (ms := ms52) rfl vs hs h0 hk
  refine ⟨vs', k', m, b1, b2, ?_⟩
  have hl : vs.length ≤ DC.wt (.sl (vs.map TJson.enc)) := by simp [DC.wt]
  have hc := c.len
  have key : Loop E_laws_heldJsonSL1 [.sl (vs'.map TJson.enc), .i k, .i (0 : Int)] = .ex 0 [.i k'] := held_loop c (fun l k => by simp [E_laws_heldJsonSL1]) [] (by simp only [List.length_nil]; omega)
  rw [eq_laws_heldJsonS]
  simp only [E_laws_heldJsonS, List.getD_cons_zero, List.getD_cons_succ, DC.bb_b, DC.ii_i, DC.ss_s, DC.ll_sl, key, Out.andThenB]
  rfl
theorem mh_Json (v : TJson) : ∀ k : Int, 0 ≤ k → k + 30 * ((1 + wtL (TJson.enc v) : Nat) : Int) < 4611686018427387904 → ∃ (x' : TJson) (k' : Int), (MarkRow mT mTab ms52 TJson.enc v k x' k' ∧ (∀ (l : List (List DC)) (i : Nat), i < l.length → l.length ≤ 9223372036854775807 → l.getD i [] = TJson.enc x' → E_laws_heldJsonSL1 [.sl l, .i k, .i (i : Int)] = .norm [.sl l, .i k', .i ((i + 1 : Nat) : Int)])) ∧ k ≤ k' ∧ k' ≤ k + 30 * ((1 + wtL (TJson.enc v) : Nat) : Int) := by
  induction v using TJson.ind with | h v ih =>
  intro k h0 hk
  rw [wsum_Json] at hk
  rw [wsum_Json]
  obtain ⟨a2, k2, ⟨n2, e2⟩, b2, c2, h2⟩ := mhS_Json' v.items (fun x hx => ih x hx) (k + 1 + 1) (by omega) (by omega)
  obtain ⟨a3, k3, ⟨n3, e3⟩, b3, c3, h3⟩ := mhS_String v.names (k2) (by omega) (by omega)
  refine ⟨⟨k, mtx (k + 1), a2, a3⟩, k3, ⟨⟨n2 + n3, fun m hm r => ?_⟩, ?_⟩, by omega, by omega⟩
  · refine ⟨k3, ?_⟩
    rw [TJson.enc_eq, TJson.enc_eq]
    refine rowActs_int (rowActs_inc (by omega) ?_)
    refine rowActs_txt (s := mtx (k + 1)) rfl (rowActs_inc (by omega) ?_)
    refine rowActs_sub (l := v.items.map TJson.enc) rfl (mkF_up (by omega) e2) (rowActs_upd ⟨by omega, by omega⟩ ?_)
    refine rowActs_sub (l := v.names.map S1) rfl (mkF_up (by omega) e3) (rowActs_upd ⟨by omega, by omega⟩ ?_)
    exact rfl
  · intro l i hi hl hg
    have w0 : IntKind.i64.wrap (k + 1) = k + 1 := wrap64 (by omega) (by omega)
    have m1 : E_laws_markText [.i (k + 1)] = .ret [.s (mtx (k + 1))] := mtx_eq (by omega) (by omega)
    have w1 : IntKind.i64.wrap (k + 1 + 1) = k + 1 + 1 := wrap64 (by omega) (by omega)
    have g2 : ¬ k2 < 0 := by omega
    have g3 : ¬ k3 < 0 := by omega
    have hc1 : (i : Int) < (l.length : Int) := by omega
    simp only [E_laws_heldJsonSL1, List.getD_cons_zero, List.getD_cons_succ, DC.bb_b, DC.ii_i, DC.ss_s, DC.ll_sl, Int.toNat_natCast, hg, TJson.enc_eq, w0, m1, w1, h2, h3, eq_laws_markText, Out.bindR_ret]
    simp [hi, hc1, wrap_succ hi hl, g2, g3, w0, m1, w1, h2, h3]
theorem mhS_Json (vs : List TJson) (k : Int) (h0 : 0 ≤ k) (hk : k + 30 * ((DC.wt (.sl (vs.map TJson.enc)) : Nat) : Int) < 4611686018427387904) : ∃ (vs' : List TJson) (k' : Int), Mk mT mTab 52 (vs.map TJson.enc) k (vs'.map TJson.enc) k' ∧ k ≤ k' ∧ k' ≤ k + 30 * ((DC.wt (.sl (vs.map TJson.enc)) : Nat) : Int) ∧ r_laws_heldJsonS [.sl (vs'.map TJson.enc), .i k] = .ret [.i k'] := mhS_Json' vs (fun v _ => mh_Json v) k h0 hk
theorem mha_Json (v : TJson) (k : Int) (h0 : 0 ≤ k) (hk : k + 30 * ((wtL (TJson.enc v) : Nat) : Int) < 4611686018427387904) : ∃ (x0 : List TJson) (x1 : List (List UInt8)) (k' : Int), mkAV mT mTab [52, 14] [v.items.map TJson.enc, v.names.map S1] k = some ([x0.map TJson.enc, x1.map S1], k') ∧ k ≤ k' ∧ r_laws_heldJson [.i v.kind, .s v.text, .sl (x0.map TJson.enc), .sl (x1.map S1), .i k] = .ret [.i k'] := by
  rw [wsum_Json] at hk
  obtain ⟨a0, k0, ⟨n0, e0⟩, b0, c0, h0⟩ := mhS_Json v.items (k) (by omega) (by omega)
  obtain ⟨a1, k1, ⟨n1, e1⟩, b1, c1, h1⟩ := mhS_String v.names (k0) (by omega) (by omega)
  refine ⟨a0, a1, k1, mkAV_put (n := n0 + n1) ?_, by omega, ?_⟩
  · simp only [mkA, mkF_up (show n0 ≤ n0 + n1 by omega) e0, mkF_up (show n1 ≤ n0 + n1 by omega) e1]
  · have g0 : ¬ k0 < 0 := by omega
    have g1 : ¬ k1 < 0 := by omega
    rw [eq_laws_heldJson]
    simp only [E_laws_heldJson, List.getD_cons_zero, List.getD_cons_succ, DC.bb_b, DC.ii_i, DC.ss_s, DC.ll_sl, h0, h1, Out.bindR_ret]
    simp [g0, g1, h0, h1]
theorem lim_add {n : Nat} (h : n ≤ 1048576) : n + 1 < LIM := by unfold LIM; omega
theorem lim_zero {n : Nat} (h : n ≤ 1048576) : 0 + n < LIM := by unfold LIM; omega
theorem take_map_succ {α β : Type} {f : α → β} {l : List α} {j : Nat} (h : j < l.length) : (l.take (j + 1)).map f = (l.take j).map f ++ [f l[j]] := by
  rw [List.take_succ_eq_append_getElem h, List.map_append]
  rfl
theorem spec_copyJson (v : TJson) : wtL (TJson.enc v) ≤ 1048576 → r_spec_l22Copy [.i v.kind, .s v.text, .sl (v.items.map TJson.enc), .sl (v.names.map S1)] = .ret (TJson.enc v) := by
  induction v using TJson.ind with | h v ih =>
  intro hw
  rw [wsum_Json] at hw
  have hn : v.names.length ≤ 1048576 := by have h := hw; simp only [DC.wt, List.length_map] at h; omega
  have hl : v.items.length ≤ 1048576 := by have h := hw; simp only [DC.wt, List.length_map] at h; omega
  rw [eq_spec_l22Copy]
  simp only [E_spec_l22Copy, List.getD_cons_zero, List.getD_cons_succ, DC.ii_i, DC.ss_s, DC.ll_sl, List.length_map, List.length_nil]
  rw [if_pos (lim_zero hn)]
  have key := Loop_upto (F := E_spec_l22CopyL1) (st := fun i => [.i (i : Int), .i v.kind, .s v.text, .sl (v.items.map TJson.enc), .sl (v.names.map S1), .i 0, .s [], .i v.kind, .s v.text, .sl ((v.items.take i).map TJson.enc), .sl (v.names.map S1)])
    (o := .ex 0 [.i 0, .s [], .i v.kind, .s v.text, .sl (v.items.map TJson.enc), .sl (v.names.map S1)]) v.items.length 0 (fun j _ hj => ?step) ?fin
  · have key' : Loop E_spec_l22CopyL1 [.i 0, .i v.kind, .s v.text, .sl (v.items.map TJson.enc), .sl (v.names.map S1), .i 0, .s [], .i v.kind, .s v.text, .sl [], .sl ([] ++ v.names.map S1)] = .ex 0 [.i 0, .s [], .i v.kind, .s v.text, .sl (v.items.map TJson.enc), .sl (v.names.map S1)] := key
    rw [key', TJson.enc_eq]
    simp [Out.andThenB]
  case step =>
    have hi : j < v.items.length := by omega
    have hc1 : (j : Int) < (v.items.length : Int) := by omega
    have hv := ih v.items[j] (List.getElem_mem hi) (by have := wtV_mem (List.mem_map_of_mem (f := TJson.enc) (List.getElem_mem hi)); rw [DC.wt] at hw; omega)
    have hL : j + 1 < LIM := lim_add (by omega)
    have hm : min j v.items.length = j := by omega
    rw [take_map_succ hi]
    simp only [E_spec_l22CopyL1, List.getD_cons_zero, List.getD_cons_succ, DC.bb_b, DC.ii_i, DC.ss_s, DC.ll_sl, Int.toNat_natCast, List.length_map, map_getD hi, TJson.enc_eq v.items[j], hv, Out.bindR_ret, List.length_take, hm]
    simp [hi, hc1, hL, Out.andThenB, wrap_succ hi (show v.items.length ≤ 9223372036854775807 by omega), TJson.enc_eq v.items[j]]
  case fin =>
    refine Loop_ex ?_
    rw [Nat.zero_add, List.take_length]
    simp [E_spec_l22CopyL1]
theorem impl_copyJson (v : TJson) : wtL (TJson.enc v) ≤ 1048576 → r_impl_cloneJson [.i v.kind, .s v.text, .sl (v.items.map TJson.enc), .sl (v.names.map S1)] = .ret (TJson.enc v) := by
  induction v using TJson.ind with | h v ih =>
  intro hw
  rw [wsum_Json] at hw
  have hn : v.names.length ≤ 1048576 := by have h := hw; simp only [DC.wt, List.length_map] at h; omega
  have hl : v.items.length ≤ 1048576 := by have h := hw; simp only [DC.wt, List.length_map] at h; omega
  rw [eq_impl_cloneJson]
  simp only [E_impl_cloneJson, List.getD_cons_zero, List.getD_cons_succ, DC.ii_i, DC.ss_s, DC.ll_sl, at_slices_Clone_string (v.names.map S1) (by rw [List.length_map]; omega), Out.bindR_ret]
  have key := Loop_upto (F := E_impl_cloneJsonL1) (st := fun i => [.sl (v.items.map TJson.enc), .i ((v.items.map TJson.enc).length : Int), .i (i : Int), .i 0, .s [], .i v.kind, .s v.text, .sl ((v.items.take i).map TJson.enc), .sl (v.names.map S1)])
    (o := .ex 0 [.i 0, .s [], .i v.kind, .s v.text, .sl (v.items.map TJson.enc), .sl (v.names.map S1)]) v.items.length 0 (fun j _ hj => ?step) ?fin
  · have key' : Loop E_impl_cloneJsonL1 [.sl (v.items.map TJson.enc), .i ((v.items.map TJson.enc).length : Int), .i 0, .i 0, .s [], .i v.kind, .s v.text, .sl [], .sl (v.names.map S1)] = .ex 0 [.i 0, .s [], .i v.kind, .s v.text, .sl (v.items.map TJson.enc), .sl (v.names.map S1)] := key
    rw [key', TJson.enc_eq]
    simp [Out.andThenB]
  case step =>
    have hi : j < v.items.length := by omega
    have hc1 : (j : Int) < (v.items.length : Int) := by omega
    have hv := ih v.items[j] (List.getElem_mem hi) (by have := wtV_mem (List.mem_map_of_mem (f := TJson.enc) (List.getElem_mem hi)); rw [DC.wt] at hw; omega)
    have hL : j + 1 < LIM := lim_add (by omega)
    have hm : min j v.items.length = j := by omega
    rw [take_map_succ hi]
    simp only [E_impl_cloneJsonL1, List.getD_cons_zero, List.getD_cons_succ, DC.bb_b, DC.ii_i, DC.ss_s, DC.ll_sl, Int.toNat_natCast, List.length_map, map_getD hi, TJson.enc_eq v.items[j], hv, Out.bindR_ret, List.length_take, hm]
    simp [hi, hc1, hL, Out.andThenB, wrap_succ hi (show v.items.length ≤ 9223372036854775807 by omega), TJson.enc_eq v.items[j]]
  case fin =>
    refine Loop_ex ?_
    rw [Nat.zero_add, List.take_length]
    simp [E_impl_cloneJsonL1]
def noJ : TJson := ⟨0, [], [], []⟩
def getL (n : List UInt8) : List (List UInt8) → List TJson → Option TJson
  | nm :: ns, x :: xs => if nm = n then some x else getL n ns xs
  | _, _ => none
def getJ (v : TJson) (n : List UInt8) : Option TJson := if v.kind = 7 then getL n v.names v.items else none
def encG (o : Option TJson) : List DC :=
  match o with
  | some x => TJson.enc x ++ [.b true]
  | none => TJson.enc noJ ++ [.b false]
theorem getL_mem {n : List UInt8} : ∀ {ns : List (List UInt8)} {xs : List TJson} {x : TJson}, getL n ns xs = some x → x ∈ xs
  | [], _, _, h => by simp [getL] at h
  | _ :: _, [], _, h => by simp [getL] at h
  | nm :: ns, y :: xs, x, h => by
    rw [getL] at h
    split at h
    · obtain rfl := Option.some.inj h; simp
    · have := getL_mem h; simp [this]
theorem spec_getLoop (v : TJson) (n : List UInt8) (hn : v.names.length ≤ 1048576) (h7 : v.kind = 7) : ∀ (m i : Nat), i + m = v.names.length →
    Loop E_spec_l22GetL1 [.s n, .i (i : Int), .i v.kind, .s v.text, .sl (v.items.map TJson.enc), .sl (v.names.map S1), .i 0, .s []] = (match getL n (v.names.drop i) (v.items.drop i) with | some x => .ret (TJson.enc x ++ [.b true]) | none => .ex 0 [.i 0, .s []])
  | 0, i, hi => by
    have hd : v.names.drop i = [] := List.drop_of_length_le (by omega)
    rw [hd]
    have hc : ¬ (i : Int) < (v.names.length : Int) := by omega
    simp only [getL]
    exact Loop_ex (by simp [E_spec_l22GetL1, hc, show ¬ i < v.names.length by omega, Out.andThen])
  | m + 1, i, hi => by
    have hlt : i < v.names.length := by omega
    have hc : (i : Int) < (v.names.length : Int) := by omega
    by_cases hi2 : i < v.items.length
    · have hc2 : (i : Int) < (v.items.length : Int) := by omega
      rw [List.drop_eq_getElem_cons hlt, List.drop_eq_getElem_cons hi2, getL]
      by_cases he : v.names[i] = n
      · rw [if_pos he]
        refine Loop_ret ?_
        simp only [E_spec_l22GetL1, List.getD_cons_zero, List.getD_cons_succ, DC.bb_b, DC.ii_i, DC.ss_s, DC.ll_sl, Int.toNat_natCast, List.length_map, map_getD hi2, map_getD hlt, TJson.enc_eq v.items[i], S1]
        simp [hc, hc2, hlt, hi2, h7, he, Out.andThen, Out.andThenB, map_getD hi2, map_getD hlt, TJson.enc_eq v.items[i], S1]
      · rw [if_neg he, ← spec_getLoop v n hn h7 m (i + 1) (by omega)]
        refine Loop_norm ?_
        simp only [E_spec_l22GetL1, List.getD_cons_zero, List.getD_cons_succ, DC.bb_b, DC.ii_i, DC.ss_s, DC.ll_sl, Int.toNat_natCast, List.length_map, map_getD hi2, map_getD hlt, TJson.enc_eq v.items[i], S1]
        simp [hc, hc2, hlt, hi2, h7, he, Out.andThen, Out.andThenB, map_getD hi2, map_getD hlt, S1, wrap_succ hlt (show v.names.length ≤ 9223372036854775807 by omega)]
    · have hc2 : ¬ (i : Int) < (v.items.length : Int) := by omega
      have hd : v.items.drop i = [] := List.drop_of_length_le (by omega)
      rw [List.drop_eq_getElem_cons hlt, hd]
      simp only [getL]
      exact Loop_ex (by simp [E_spec_l22GetL1, hc, hc2, hlt, hi2, Out.andThen])
theorem spec_Get (v : TJson) (n : List UInt8) (hn : v.names.length ≤ 1048576) : r_spec_l22Get [.i v.kind, .s v.text, .sl (v.items.map TJson.enc), .sl (v.names.map S1), .s n] = .ret (encG (getJ v n)) := by
  rw [eq_spec_l22Get]
  simp only [E_spec_l22Get, List.getD_cons_zero, List.getD_cons_succ, DC.ii_i, DC.ss_s, DC.ll_sl]
  unfold getJ
  by_cases h7 : v.kind = 7
  · rw [if_pos h7]
    have := spec_getLoop v n hn h7 v.names.length 0 (by omega)
    rw [List.drop_zero, List.drop_zero] at this
    have this' : Loop E_spec_l22GetL1 [.s n, .i 0, .i v.kind, .s v.text, .sl (v.items.map TJson.enc), .sl (v.names.map S1), .i 0, .s []] = _ := this
    rw [this']
    cases getL n v.names v.items with
    | some x => simp [Out.andThenB, encG]
    | none => simp [Out.andThenB, encG, noJ, TJson.enc_eq]
  · rw [if_neg h7, Loop_ex (r := [.i 0, .s []]) (id := 0) ?_]
    · simp [Out.andThenB, encG, noJ, TJson.enc_eq]
    · by_cases a : 0 < v.names.length <;> by_cases b : 0 < v.items.length <;> simp [E_spec_l22GetL1, a, b, h7, Out.andThen]
def at1 (n : List UInt8) : List (List UInt8) → Int → Int
  | [], _ => -1
  | nm :: ns, i => if nm = n then i else at1 n ns (i + 1)
theorem index_loop (ns : List (List UInt8)) (n : List UInt8) (hn : ns.length ≤ 1048576) : ∀ (m i : Nat), i + m = ns.length →
    Out.andThenB (Loop E_slices_Index_stringL1 [.sl (ns.map S1), .s n, .i (ns.length : Int), .i (i : Int)]) 0 (fun _ => .ret [.i (-1 : Int)]) = .ret [.i (at1 n (ns.drop i) i)]
  | 0, i, hi => by
    have hd : ns.drop i = [] := List.drop_of_length_le (by omega)
    have hc : ¬ (i : Int) < (ns.length : Int) := by omega
    rw [hd, Loop_ex (r := []) (id := 0) (by simp [E_slices_Index_stringL1, show ¬ i < ns.length by omega])]
    rfl
  | m + 1, i, hi => by
    have hlt : i < ns.length := by omega
    have hc : (i : Int) < (ns.length : Int) := by omega
    rw [List.drop_eq_getElem_cons hlt, at1]
    by_cases he : ns[i] = n
    · rw [if_pos he, Loop_ret (r := [.i (i : Int)])]
      · rfl
      · simp only [E_slices_Index_stringL1, List.getD_cons_zero, List.getD_cons_succ, DC.ii_i, DC.ss_s, DC.ll_sl, Int.toNat_natCast, List.length_map, map_getD hlt, S1]
        simp [hc, hlt, he, Out.andThenB, map_getD hlt, S1]
    · rw [if_neg he, show ((i : Int) + 1) = ((i + 1 : Nat) : Int) by omega, ← index_loop ns n hn m (i + 1) (by omega), Loop_norm]
      have he' : ¬ n = ns[i] := fun h => he h.symm
      simp only [E_slices_Index_stringL1, List.getD_cons_zero, List.getD_cons_succ, DC.ii_i, DC.ss_s, DC.ll_sl, Int.toNat_natCast, List.length_map, map_getD hlt, S1]
      simp [hc, hlt, he, he', Out.andThenB, map_getD hlt, S1, wrap_succ hlt (show ns.length ≤ 9223372036854775807 by omega)]
theorem impl_Index (ns : List (List UInt8)) (n : List UInt8) (hn : ns.length ≤ 1048576) : r_slices_Index_string [.sl (ns.map S1), .s n] = .ret [.i (at1 n ns 0)] := by
  rw [eq_slices_Index_string]
  simp only [E_slices_Index_string, List.getD_cons_zero, List.getD_cons_succ, DC.ss_s, DC.ll_sl, List.length_map]
  exact index_loop ns n hn ns.length 0 (by omega)
theorem at1_get (n : List UInt8) : ∀ (ns : List (List UInt8)) (xs : List TJson) (i : Nat), (∀ x, getL n ns xs = some x → ∃ j, at1 n ns i = ((i + j : Nat) : Int) ∧ j < ns.length ∧ xs[j]? = some x) ∧ (getL n ns xs = none → at1 n ns i = -1 ∨ ∃ j : Nat, at1 n ns i = ((i + j : Nat) : Int) ∧ j < ns.length ∧ xs.length ≤ j)
  | [], xs, i => ⟨fun x h => by simp [getL] at h, fun _ => .inl rfl⟩
  | nm :: ns, [], i => ⟨fun x h => by simp [getL] at h, fun _ => by
      obtain ⟨_, h2⟩ := at1_get n ns [] (i + 1)
      rw [at1]
      by_cases he : nm = n
      · rw [if_pos he]; exact .inr ⟨0, by omega, by simp, by simp⟩
      · rw [if_neg he]
        rcases h2 (by cases ns <;> rfl) with h | ⟨j, h, h3, h4⟩
        · exact .inl (by rw [show ((i : Int) + 1) = ((i + 1 : Nat) : Int) by omega]; exact h)
        · exact .inr ⟨j + 1, by rw [show ((i : Int) + 1) = ((i + 1 : Nat) : Int) by omega, h]; omega, by simp; omega, by simp⟩⟩
  | nm :: ns, x :: xs, i => by
    obtain ⟨h1, h2⟩ := at1_get n ns xs (i + 1)
    rw [at1, getL]
    by_cases he : nm = n
    · rw [if_pos he, if_pos he]
      refine ⟨fun y hy => ⟨0, by omega, by simp, ?_⟩, fun h => by simp at h⟩
      obtain rfl := Option.some.inj hy
      rfl
    · rw [if_neg he, if_neg he]
      refine ⟨fun y hy => ?_, fun hy => ?_⟩
      · obtain ⟨j, q1, q2, q3⟩ := h1 y hy
        exact ⟨j + 1, by rw [show ((i : Int) + 1) = ((i + 1 : Nat) : Int) by omega, q1]; omega, by simp; omega, by simpa using q3⟩
      · rcases h2 hy with h | ⟨j, q1, q2, q3⟩
        · exact .inl (by rw [show ((i : Int) + 1) = ((i + 1 : Nat) : Int) by omega]; exact h)
        · exact .inr ⟨j + 1, by rw [show ((i : Int) + 1) = ((i + 1 : Nat) : Int) by omega, q1]; omega, by simp; omega, by simp; omega⟩
theorem impl_Part (v : TJson) (n : List UInt8) (hw : wtL (TJson.enc v) ≤ 1048576) : r_impl_jsonPart [.i v.kind, .s v.text, .sl (v.items.map TJson.enc), .sl (v.names.map S1), .s n] = .ret (encG (getJ v n)) := by
  rw [wsum_Json] at hw
  have hn : v.names.length ≤ 1048576 := by have h := hw; simp only [DC.wt, List.length_map] at h; omega
  have hl : v.items.length ≤ 1048576 := by have h := hw; simp only [DC.wt, List.length_map] at h; omega
  rw [eq_impl_jsonPart]
  have hwr : IntKind.i64.wrap ((v.items.length : Int) - 1) = (v.items.length : Int) - 1 := wrap64 (by omega) (by omega)
  simp only [E_impl_jsonPart, List.getD_cons_zero, List.getD_cons_succ, DC.ii_i, DC.ss_s, DC.ll_sl, impl_Index v.names n hn, Out.bindR_ret, List.length_map, hwr]
  unfold getJ
  by_cases h7 : v.kind = 7
  · rw [if_pos h7]
    obtain ⟨g1, g2⟩ := at1_get n v.names v.items 0
    cases hg : getL n v.names v.items with
    | some x =>
      obtain ⟨j, q1, q2, q3⟩ := g1 x hg
      have hj : j < v.items.length := (List.getElem?_eq_some_iff.1 q3).1
      have hx : v.items[j] = x := (List.getElem?_eq_some_iff.1 q3).2
      have q1' : at1 n v.names ((0 : Nat) : Int) = (j : Int) := by rw [q1]; simp
      have q1'' : at1 n v.names 0 = (j : Int) := q1'
      have c1 : (j : Int) ≤ (v.items.length : Int) - 1 := by omega
      have c2 : (j : Int) < (v.items.length : Int) := by omega
      simp only [q1'', eq_impl_in, E_impl_in, List.getD_cons_zero, List.getD_cons_succ, DC.ii_i, DC.bb_b]
      simp [h7, c1, c2, hj, Out.andThen, map_getD hj, hx, TJson.enc_eq, encG]
    | none =>
      rcases g2 hg with h | ⟨j, q1, q2, q3⟩
      · have h' : at1 n v.names 0 = -1 := h
        simp only [h', eq_impl_in, E_impl_in, List.getD_cons_zero, List.getD_cons_succ, DC.ii_i, DC.bb_b]
        simp [h7, Out.andThen, encG, noJ, TJson.enc_eq]
      · have q1' : at1 n v.names 0 = (j : Int) := by
          have : at1 n v.names ((0 : Nat) : Int) = (j : Int) := by rw [q1]; simp
          exact this
        have c1 : ¬ (j : Int) ≤ (v.items.length : Int) - 1 := by omega
        simp only [q1', eq_impl_in, E_impl_in, List.getD_cons_zero, List.getD_cons_succ, DC.ii_i, DC.bb_b]
        simp [h7, c1, Out.andThen, encG, noJ, TJson.enc_eq]
  · rw [if_neg h7]
    simp [h7, Out.andThen, encG, noJ, TJson.enc_eq]
def resJ (v : TJson) (n : List UInt8) : TJson := (getJ v n).getD noJ
theorem encG_eq (o : Option TJson) : encG o = [.i (o.getD noJ).kind, .s (o.getD noJ).text, .sl ((o.getD noJ).items.map TJson.enc), .sl ((o.getD noJ).names.map S1), .b o.isSome] := by
  cases o with
  | none => simp [encG, TJson.enc_eq]
  | some x => simp [encG, TJson.enc_eq]
theorem resJ_wt (v : TJson) (n : List UInt8) : wtL (TJson.enc (resJ v n)) ≤ wtL (TJson.enc v) := by
  unfold resJ getJ
  split
  · cases h : getL n v.names v.items with
    | none => simp [noJ, TJson.enc_eq, wtL, DC.wt, wtV]
    | some x =>
      have hm := getL_mem h
      have := wtV_mem (List.mem_map_of_mem (f := TJson.enc) hm)
      rw [wsum_Json v]
      simp only [Option.getD_some, DC.wt]
      omega
  · simp [noJ, TJson.enc_eq, wtL, DC.wt, wtV]
def ansJ (v : TJson) (n : List UInt8) : List DC := [.i (resJ v n).kind, .s (resJ v n).text, .sl ((resJ v n).items.map TJson.enc), .sl ((resJ v n).names.map S1), .b (getJ v n).isSome]
theorem spec_JsonGet (v : TJson) (n : List UInt8) (hw : wtL (TJson.enc v) ≤ 1048576) : r_spec_JsonGet [.i v.kind, .s v.text, .sl (v.items.map TJson.enc), .sl (v.names.map S1), .s n] = .ret (ansJ v n) := by
  have hn : v.names.length ≤ 1048576 := by have h := hw; rw [wsum_Json] at h; simp only [DC.wt, List.length_map] at h; omega
  rw [eq_spec_JsonGet]
  have h2 := spec_copyJson (resJ v n) (Nat.le_trans (resJ_wt v n) hw)
  rw [TJson.enc_eq] at h2
  simp only [E_spec_JsonGet, List.getD_cons_zero, List.getD_cons_succ, DC.ii_i, DC.ss_s, DC.ll_sl, DC.bb_b, spec_Get v n hn, Out.bindR_ret, encG_eq]
  unfold resJ at h2
  simp only [h2, Out.bindR_ret, List.getD_cons_zero, List.getD_cons_succ, DC.ii_i, DC.ss_s, DC.ll_sl, DC.bb_b]
  rfl
theorem impl_JsonGet (v : TJson) (n : List UInt8) (hw : wtL (TJson.enc v) ≤ 1048576) : r_impl_JsonGet [.i v.kind, .s v.text, .sl (v.items.map TJson.enc), .sl (v.names.map S1), .s n] = .ret (ansJ v n) := by
  rw [eq_impl_JsonGet]
  have h2 := impl_copyJson (resJ v n) (Nat.le_trans (resJ_wt v n) hw)
  rw [TJson.enc_eq] at h2
  simp only [E_impl_JsonGet, List.getD_cons_zero, List.getD_cons_succ, DC.ii_i, DC.ss_s, DC.ll_sl, DC.bb_b, impl_Part v n hw, Out.bindR_ret, encG_eq]
  unfold resJ at h2
  simp only [h2, Out.bindR_ret, List.getD_cons_zero, List.getD_cons_succ, DC.ii_i, DC.ss_s, DC.ll_sl, DC.bb_b]
  rfl
mutual
theorem wfc_ok {ty : Nat → Option TI} : ∀ {t : CT} {c : DC}, WfC ty t c → c.ok
  | _, _, .b x => by simp [DC.ok]
  | _, _, .i k n _ _ => by simp [DC.ok]
  | _, _, .s l h => by rw [DC.ok]; simpa [maxLen] using h
  | _, _, .sl e te l h1 h2 h3 => by rw [DC.ok]; exact ⟨by simpa [maxLen] using h2, wfv_ok h3⟩
  | _, _, .nil e => by rw [DC.ok]; exact ⟨by simp, by rw [okV]; trivial⟩
theorem wfl_ok {ty : Nat → Option TI} : ∀ {ts : List CT} {x : List DC}, WfL ty ts x → okL x
  | _, _, .nil => by rw [okL]; trivial
  | _, _, .cons t ts x xs h1 h2 => by rw [okL]; exact ⟨wfc_ok h1, wfl_ok h2⟩
theorem wfv_ok {ty : Nat → Option TI} : ∀ {ts : List CT} {l : List (List DC)}, WfV ty ts l → okV l
  | _, _, .nil ts => by rw [okV]; trivial
  | _, _, .cons ts x l h1 h2 => by rw [okV]; exact ⟨wfl_ok h1, wfv_ok h2⟩
end
theorem decV {α : Type} {ty : Nat → Option TI} {enc : α → List DC} {cts : List CT} : ∀ {l : List (List DC)}, (∀ x ∈ l, WfL ty cts x → ∃ v, x = enc v) → WfV ty cts l → ∃ vs : List α, l = vs.map enc
  | [], _, _ => ⟨[], rfl⟩
  | x :: l, h, hw => by
    cases hw with
    | cons ts x l h1 h2 =>
      obtain ⟨v, hv⟩ := h x (by simp) h1
      obtain ⟨vs, hvs⟩ := decV (fun y hy => h y (by simp [hy])) h2
      exact ⟨v :: vs, by rw [List.map_cons, hv, hvs]⟩
theorem decC {α : Type} {ty : Nat → Option TI} {enc : α → List DC} {e : Nat} {te : TI} {c : DC} (hte : ty e = some te) (h : ∀ l, c = .sl l → ∀ x ∈ l, WfL ty te.cts x → ∃ v, x = enc v) (hw : WfC ty (.sl e) c) : ∃ vs : List α, c = .sl (vs.map enc) := by
  cases hw with
  | sl e te' l h1 h2 h3 =>
    rw [hte] at h1
    obtain rfl := Option.some.inj h1
    obtain ⟨vs, hvs⟩ := decV (h l rfl) h3
    exact ⟨vs, by rw [hvs]⟩
  | nil => exact ⟨[], rfl⟩
theorem dec_i {ty : Nat → Option TI} {k : IntKind} {c : DC} (h : WfC ty (.i k) c) : ∃ n, c = .i n ∧ k.min ≤ n ∧ n ≤ k.max := by
  cases h with
  | i k n h1 h2 => exact ⟨n, rfl, h1, h2⟩
theorem dec_s {ty : Nat → Option TI} {c : DC} (h : WfC ty .s c) : ∃ n, c = .s n := by cases h; exact ⟨_, rfl⟩
theorem dec_S1 {ty : Nat → Option TI} {x : List DC} (h : WfL ty [.s] x) : ∃ n, x = S1 n := by
  cases h with
  | cons t ts x xs h1 h2 =>
    cases h2
    obtain ⟨n, rfl⟩ := dec_s h1
    exact ⟨n, rfl⟩
theorem wfl_cons {ty : Nat → Option TI} {t : CT} {ts : List CT} {x : List DC} (h : WfL ty (t :: ts) x) : ∃ c xs, x = c :: xs ∧ WfC ty t c ∧ WfL ty ts xs := by
  cases h with
  | cons t ts x xs h1 h2 => exact ⟨x, xs, rfl, h1, h2⟩
theorem wfl_nil {ty : Nat → Option TI} {x : List DC} (h : WfL ty [] x) : x = [] := by cases h; rfl
theorem mem_row_lt {l : List (List DC)} {x : List DC} (h : x ∈ l) : SizeOf.sizeOf x < SizeOf.sizeOf (DC.sl l) := by
  have := List.sizeOf_lt_of_mem h
  simp only [DC.sl.sizeOf_spec]
  omega
theorem tyS : cfg.ty 9 = some ⟨.str, [.s], 16, [], false⟩ := by kernel_rfl
theorem ty_Json : cfg.ty 35 = some ⟨.struct, [.i .i64, .s, .sl 35, .sl 9], 72, [(0, 1, false), (1, 1, false), (2, 1, false), (3, 1, false)], false⟩ := by kernel_rfl
theorem dec_Json {x : List DC} (h0 : WfL cfg.ty [.i .i64, .s, .sl 35, .sl 9] x) : ∃ v : TJson, x = TJson.enc v := by
  have h := h0
  obtain ⟨c0, r0, e0, w0, h⟩ := wfl_cons h
  obtain ⟨n0, rfl, _, _⟩ := dec_i w0
  obtain ⟨c1, r1, e1, w1, h⟩ := wfl_cons h
  obtain ⟨n1, rfl⟩ := dec_s w1
  obtain ⟨c2, r2, e2, w2, h⟩ := wfl_cons h
  have hrec2 : ∀ l, c2 = .sl l → ∀ y ∈ l, WfL cfg.ty [.i .i64, .s, .sl 35, .sl 9] y → ∃ v : TJson, y = TJson.enc v := fun l hl y hy hw => by
    have hlt : SizeOf.sizeOf y < SizeOf.sizeOf x := by
      have := mem_row_lt hy
      rw [← hl] at this
      subst e0 e1 e2
      simp only [List.cons.sizeOf_spec]
      omega
    exact dec_Json hw
  obtain ⟨n2, rfl⟩ := decC (enc := TJson.enc) ty_Json hrec2 w2
  obtain ⟨c3, r3, e3, w3, h⟩ := wfl_cons h
  obtain ⟨n3, rfl⟩ := decC (enc := S1) tyS (fun l _ y hy hw => dec_S1 hw) w3
  have hn := wfl_nil h
  refine ⟨⟨n0, n1, n2, n3⟩, ?_⟩
  rw [TJson.enc_eq]
  subst hn
  simp only [e0, e1, e2, e3]
termination_by SizeOf.sizeOf x
theorem wfl_app {ty : Nat → Option TI} : ∀ {ts1 ts2 : List CT} {x : List DC}, WfL ty (ts1 ++ ts2) x → ∃ y z, x = y ++ z ∧ WfL ty ts1 y ∧ WfL ty ts2 z
  | [], ts2, x, h => ⟨[], x, rfl, .nil, h⟩
  | t :: ts1, ts2, x, h => by
    obtain ⟨c, xs, rfl, h1, h2⟩ := wfl_cons h
    obtain ⟨y, z, rfl, h3, h4⟩ := wfl_app h2
    exact ⟨c :: y, z, rfl, .cons _ _ _ _ h1 h3, h4⟩
theorem law_FnExactJsonGet (d : List DC) (hd : WfL cfg.ty [.i .i64, .s, .sl 35, .sl 9, .s] d) : r_laws_FnExactJsonGet d = .ret [.b true] := by
  obtain ⟨y0, z0, e0, w0, hd⟩ := wfl_app (ts1 := [.i .i64, .s, .sl 35, .sl 9]) (ts2 := [.s]) hd
  obtain ⟨y1, z1, e1, w1, hd⟩ := wfl_app (ts1 := [.s]) (ts2 := []) hd
  have hz := wfl_nil hd
  have k0 := wfl_ok w0
  obtain ⟨a0, g0⟩ := dec_Json w0
  subst g0
  obtain ⟨c1, q1, f1, v1, u1⟩ := wfl_cons w1
  have x1 := wfl_nil u1
  have k1 := wfc_ok v1
  obtain ⟨a1, g1⟩ := dec_s v1
  subst g1 x1 f1
  subst hz
  subst e1
  subst e0
  rw [eq_laws_FnExactJsonGet]
  simp only [E_laws_FnExactJsonGet, TJson.enc_eq, List.cons_append, List.nil_append, List.append_nil, List.getD_cons_zero, List.getD_cons_succ, DC.bb_b, DC.ii_i, DC.ss_s, DC.ll_sl]
  by_cases b1 : (a1.length : Int) > 1048576
  · simp only [b1, decide_true, if_true]
  simp only [b1, decide_false, Bool.false_eq_true, if_false]
  rw [sz_Json a0 k0 (1048576) (by omega) (by omega)]
  simp only [Out.bindR_ret, List.getD_cons_zero, List.getD_cons_succ, DC.bb_b, DC.ii_i, DC.ss_s, DC.ll_sl]
  by_cases s0 : (1048576 : Int) < ((wtL (TJson.enc a0) : Nat) : Int)
  · rw [szR_lt s0]
    rfl
  rw [szR_ge s0]
  have s0' : ¬ (1048576 : Int) - ((wtL (TJson.enc a0) : Nat) : Int) < 0 := by omega
  simp only [s0', decide_false, Bool.false_eq_true, if_false]
  have W0 : wtL (TJson.enc a0) ≤ 1048576 := by omega
  have l0_items : a0.items.length ≤ 1048576 := by have h := W0; simp only [TJson.enc_eq, wtL, DC.wt, List.length_map] at h; omega
  have l0_names : a0.names.length ≤ 1048576 := by have h := W0; simp only [TJson.enc_eq, wtL, DC.wt, List.length_map] at h; omega
  have hs := spec_JsonGet a0 a1 W0
  have hi := impl_JsonGet a0 a1 W0
  have hrw := resJ_wt a0 a1
  have hq := eq_Json (resJ a0 a1) (by omega)
  obtain ⟨x0, x1, k0, M0, p0, _⟩ := mha_Json a0 1 (by omega) (by omega)
  obtain ⟨y0, y1, k1, M1, p1, H1⟩ := mha_Json (resJ a0 a1) 1 (by omega) (by omega)
  have n0 : ¬ k0 < 0 := by omega
  have n1 : ¬ k1 < 0 := by omega
  simp only [to_Json a0 W0, eq_Json a0 W0, hs, hi, TJson.enc_eq, List.getD_cons_zero, List.getD_cons_succ, DC.bb_b, DC.ii_i, DC.ss_s, DC.ll_sl, Out.bindR_ret, bne_self_eq_false, beq_self_eq_true, Bool.not_true, Bool.false_eq_true, if_false, ansJ, hq, M0, M1, markM, List.length_cons, List.length_nil, if_true, n0, n1, decide_false, H1, Out.andThen]
end Go.Proofs.QV
