/- A call, from within: the callee's begin and end. -/
import Derived.Test.YtljggmbgbnmapaaGreatV19
namespace Go.Proofs.YtljggmbgbnmapaaGreatV
open Go
set_option linter.unusedVariables false
set_option linter.unusedSimpArgs false

section
variable {P : Program} {ty : Nat → Option TI} {fn : Nat → Option FI} {cl : Nat → Hint → List DC → Out} {A : An}

/-- The results' values and their cells. -/
def RVs : List (Bool × List RK) → List Value → List Value → Prop
  | [], [], us => us = []
  | (a, ks) :: rs, v :: vs, us => ∃ u1 u2, us = u1 ++ u2 ∧ u1.length = ks.length ∧ (a = true → v = .agg u1.toArray) ∧ (a = false → u1 = [v]) ∧ RVs rs vs u2
  | _, _, _ => False

/-- The variables' cells in memory. -/
def OV (w : World) (b : Nat → Nat) : Nat → List KO → List Value → Prop
  | _, [], us => us = []
  | j, .var t l :: ks, us => ∃ u1 u2, us = u1 ++ u2 ∧ u1.length = l.length ∧ w.heap[b j]? = some (.cells u1.toArray t (0, 0)) ∧ (∀ u ∈ u1, u.oneCell' = true) ∧ OV w b (j + 1) ks u2
  | _, .u :: _, _ => False

/-- What a call returns, and what it leaves. -/
structure Res (ty : Nat → Option TI) (A : An) (kos : List KO) (rk : List (Bool × List RK)) (r : List DC) (vs : List Value) (w' : World) : Prop where
  ex : ∃ (g1 : Gh) (H0 H1 : List HS) (us1 us2 : List Value), RVs rk vs us1 ∧ OV w' A.pb 0 kos us2 ∧ FL ty A g1 H0 H1 w' r 0 (rkAll 0 rk ++ kos.flatMap KO.kinds) (us1 ++ us2) ∧ Apart (rkAll 0 rk ++ kos.flatMap KO.kinds) (us1 ++ us2) ∧
    (∀ b, g1.I b → b < w'.heap.size ∧ (A.I0 b ∨ A.w0.heap.size ≤ b ∨ A.Pm b)) ∧ (∀ j, j < A.m → ¬ g1.I (A.pb j)) ∧ ∀ j, j < A.m → ∃ o, getH H1 j = .live o ∧ oblk g1 j o = some (A.pb j)
  keep : Keep A w'

/-- The result as one value. -/
def resVal (vs : List Value) : Value :=
  match vs with
  | [v] => v
  | vs => .tuple vs.toArray

/-- WHAT IS ASKED OF A CALL. -/
def CallsTo (P : Program) (ty : Nat → Option TI) (f : Nat) (fi : FI) (h : Hint) (v r : List DC) : Prop :=
  ∀ (A : An) (g : Gh) (vals : Array Value) (w : World), Rel ty A g (startSt fi h v) { tmps := vals ++ Array.replicate (fi.ntmps - vals.size) undef, defers := [] } w → vals.size = h.tm.length → A.w0 = w → A.m = (KO.vars h.ob).length →
    Calls P f vals w fun
      | .returned rv, w' => ∃ vs, rv = resVal vs ∧ Res ty A (KO.vars h.ob) fi.rk r vs w'
      | _, _ => False

def CallOK (P : Program) (ty : Nat → Option TI) (fn : Nat → Option FI) (cl : Nat → Hint → List DC → Out) : Prop :=
  ∀ f fi h v r, fn f = some fi → cl f h v = .ret r → CallsTo P ty f fi h v r

/-- The functions' table. -/
structure FnOk (P : Program) (ty : Nat → Option TI) (f : Nat) (fi : FI) : Prop where
  ex : ∃ fd, P.funcs[f]? = some fd ∧ (fd.name == "runtime.NumGoroutine") = false ∧ fd.body.isNone = false ∧ (fi.prim = none → (∀ h, fd.body = some (fi.body h).code) ∧ fd.ntmps = fi.ntmps ∧ fd.results.toList = fi.res)
  prim : ∀ p, fi.prim = some p → ∀ h v r, p h v = some r → CallsTo P ty f fi h v r

def resF (tmps : Array Value) : ResultVar → Sem Value
  | .tmp t => pure (tmps.getD t undef)
  | .cell a t => do loadVar t (← asAddr (tmps.getD a undef))

theorem run_results {fd : Func} {tmps : Array Value} {w : World} {vs : List Value} (h : (fd.results.toList.mapM (resF tmps)).run P w = .ok vs w) : (results fd tmps).run P w = .ok (resVal vs) w := by
  unfold results
  rw [Sem.run_bind, Array.mapM_eq_mapM_toList]
  simp only [Sem.run_map]
  have hf : (fun x => match x with
    | ResultVar.tmp t => pure (tmps.getD t undef)
    | ResultVar.cell a t => do loadVar t (← asAddr (tmps.getD a undef)) : ResultVar → Sem Value) = resF tmps := by
    funext x
    cases x <;> rfl
  have h' : ∀ f : ResultVar → Sem Value, f = resF tmps → (fd.results.toList.mapM f).run P w = .ok vs w := fun f hf => by rw [hf]; exact h
  rw [h' _ (by funext x; cases x <;> rfl)]
  simp only [Result.andThen_ok, Sem.run_pure]
  match vs with
  | [] => rfl
  | [v] => rfl
  | _ :: _ :: _ => rfl

theorem resSrc_ok (hty : TyOk P ty) {g : Gh} {st : St} {a : Act} {w : World} (h : Rel ty A g st a w) : ∀ {rs : List ResultVar} {rk : List (Bool × List RK)} {p : List S}, resSrc ty st rs rk = some p →
    ∃ vs us : List Value, (rs.mapM (resF a.tmps)).run P w = .ok vs w ∧ SRL ty g st.H w p us ∧ RVs rk vs us
  | [], [], p, e => by
    simp only [resSrc, Option.some.injEq] at e
    subst e
    exact ⟨[], [], rfl, trivial, rfl⟩
  | .tmp t :: rs, (ag, ks) :: rk, p, e => by
    obtain ⟨tm, H⟩ := st
    unfold resSrc at e
    have hr := h.getD t
    split at e
    · rename_i s l hs hl
      split at e
      · rename_i hk
        simp only [Option.some.injEq] at e
        subst e
        obtain ⟨vs, us, h1, h2, h3⟩ := resSrc_ok hty h hl
        dsimp only at hs
        rw [hs] at hr
        refine ⟨a.tmps.getD t undef :: vs, a.tmps.getD t undef :: us, ?_, ⟨hr, h2⟩, [a.tmps.getD t undef], us, rfl, by simp [hk], fun h => by simp at h, fun _ => rfl, h3⟩
        rw [List.mapM_cons, Sem.run_bind, resF, Sem.run_pure, Result.andThen_ok, Sem.run_bind, h1]
        rfl
      · simp at e
    · rename_i ss l hs hl
      split at e
      · rename_i hk
        simp only [Option.some.injEq] at e
        subst e
        obtain ⟨vs, us, h1, h2, h3⟩ := resSrc_ok hty h hl
        dsimp only at hs
        rw [hs] at hr
        obtain ⟨xs, hx, hxs⟩ := hr
        refine ⟨a.tmps.getD t undef :: vs, xs ++ us, ?_, hxs.append h2, xs, us, rfl, by rw [hxs.length, hk], fun _ => hx, fun h => by simp at h, h3⟩
        rw [List.mapM_cons, Sem.run_bind, resF, Sem.run_pure, Result.andThen_ok, Sem.run_bind, h1]
        rfl
      · simp at e
    · simp at e
  | .cell pt t :: rs, (ag, ks) :: rk, p, e => by
    obtain ⟨tm, H⟩ := st
    unfold resSrc at e
    have hr := h.getD pt
    split at e
    · rename_i id ti l hs ht hl
      split at e
      · rename_i t' cs hv
        split at e
        · rename_i hc
          simp only [Option.some.injEq] at e
          subst e
          obtain ⟨vs, us, h1, h2, h3⟩ := resSrc_ok hty h hl
          dsimp only at hs hv
          rw [hs] at hr
          have hp : a.tmps.getD pt undef = .pointer (some ⟨g.blk id, 0, none⟩) := hr.2.2 ⟨_, _, hv⟩
          obtain ⟨xs, k1, k2, k3, k4⟩ := h.ob id _ hv
          have hxl := k2.length
          have htk := hty t ti ht
          have hload := run_loadVar htk w (g.blk id) 0 xs (by omega) (fun j u hu => by
            rw [Nat.zero_add]
            simp [World.cell?, k1, hu])
          refine ⟨(if isStruct (some ti) then .agg xs.toArray else xs.headD undef) :: vs, xs ++ us, ?_, k2.append h2, xs, us, rfl, by omega, fun ha => ?_, fun ha => ?_, h3⟩
          · rw [List.mapM_cons, Sem.run_bind, resF, hp]
            simp only [asAddr, Sem.run_bind, Sem.run_pure, Result.andThen_ok, hload, h1]
          · rw [hc.2.2, ha, if_pos rfl]
          · have := htk.one (by rw [hc.2.2, ha])
            match xs, hxl with
            | [], hxl => simp at hxl; omega
            | [x], _ => rw [hc.2.2, ha]; rfl
            | _ :: _ :: _, hxl => simp at hxl; omega
        · simp at e
      · simp at e
    · simp at e
  | [], _ :: _, _, e => by simp [resSrc] at e
  | .tmp _ :: _, [], _, e => by simp [resSrc] at e
  | .cell _ _ :: _, [], _, e => by simp [resSrc] at e

theorem vars_get : ∀ {kos : List KO} {i : Nat} {k : KO}, (KO.vars kos)[i]? = some k → kos[i]? = some k ∧ ∃ t l, k = .var t l
  | [], i, k, h => by simp [KO.vars] at h
  | .u :: _, i, k, h => by simp [KO.vars] at h
  | .var t l :: ks, 0, k, h => by
    simp only [KO.vars, List.getElem?_cons_zero, Option.some.injEq] at h
    exact ⟨by simp [h], t, l, h.symm⟩
  | .var t l :: ks, i + 1, k, h => by
    simp only [KO.vars, List.getElem?_cons_succ] at h ⊢
    exact vars_get h

/-- The variables at the end. -/
theorem srcO_ov {g : Gh} {H : List HS} {w : World} {tm : List C} {a : Act} (h : Rel ty A g ⟨tm, H⟩ a w) : ∀ {ks : List KO} {id : Nat} {q : List S}, srcO H id (KO.vars ks) = some q → (∀ j, j < (KO.vars ks).length → g.blk (id + j) = A.pb (id + j)) →
    ∃ us : List Value, SRL ty g H w q us ∧ OV w A.pb id (KO.vars ks) us ∧ q.length = ((KO.vars ks).flatMap KO.kinds).length ∧ ∀ j, j < (KO.vars ks).length → isVar H (id + j)
  | [], id, q, e, _ => by
    simp only [KO.vars, srcO, Option.some.injEq] at e
    subst e
    exact ⟨[], trivial, rfl, rfl, fun j hj => by simp [KO.vars] at hj⟩
  | .u :: _, id, q, e, _ => by
    simp only [KO.vars, srcO, Option.some.injEq] at e
    subst e
    exact ⟨[], trivial, rfl, rfl, fun j hj => by simp [KO.vars] at hj⟩
  | .var t l :: ks, id, q, e, hb => by
    simp only [KO.vars, srcO] at e
    split at e
    · rename_i t' cs hv
      split at e
      · rename_i hc
        obtain ⟨rfl, hc⟩ := hc
        split at e
        · rename_i r hr
          simp only [Option.some.injEq] at e
          subst e
          obtain ⟨us, h1, h2, h3, h4⟩ := srcO_ov h hr (fun j hj => by
            have := hb (j + 1) (by simp [KO.vars]; exact hj)
            rw [show id + 1 + j = id + (j + 1) by omega]
            exact this)
          obtain ⟨xs, k1, k2, k3, k4⟩ := h.ob id _ hv
          refine ⟨xs ++ us, k2.append h1, ⟨xs, us, rfl, by rw [k2.length, hc], ?_, k4, h2⟩, by simp [KO.vars, KO.kinds, h3, hc], fun j hj => ?_⟩
          · have := hb 0 (by simp [KO.vars])
            rw [Nat.add_zero] at this
            rw [← this]
            exact k1
          · cases j with
            | zero => exact ⟨_, _, hv⟩
            | succ j =>
              rw [show id + (j + 1) = id + 1 + j by omega]
              exact h4 j (by simpa [KO.vars] using hj)
        · simp at e
      · simp at e
    · simp at e

/-- The end. -/
theorem ret_ok (hty : TyOk P ty) {g : Gh} {st : St} {a : Act} {w : World} (h : Rel ty A g st a w) {fi : FI} {hn : Hint} {r : List DC} (hm : A.m = (KO.vars hn.ob).length) (e : retOut ty fi hn st = .ret r) {fd : Func} (hres : fd.results.toList = fi.res) :
    ∃ vs, (results fd a.tmps).run P w = .ok (resVal vs) w ∧ Res ty A (KO.vars hn.ob) fi.rk r vs w := by
  unfold retOut at e
  split at e
  · rename_i p q hp hq
    split at e
    · rename_i v H1 hv
      simp only [Out.ret.injEq] at e
      subst e
      obtain ⟨vs, us1, h1, h2, h3⟩ := resSrc_ok hty h hp
      obtain ⟨tm, H⟩ := st
      have hall : ∀ j, j < (KO.vars hn.ob).length → isVar H j := by
        -- the variables are there: the reading of their cells met them
        have : ∀ {ks : List KO} {id : Nat} {q : List S}, srcO H id (KO.vars ks) = some q → ∀ j, j < (KO.vars ks).length → isVar H (id + j) := by
          intro ks
          induction ks with
          | nil => intro id q _ j hj; simp [KO.vars] at hj
          | cons k ks ih =>
            intro id q e j hj
            cases k with
            | u => simp [KO.vars] at hj
            | var t l =>
              simp only [KO.vars, srcO] at e
              split at e
              · rename_i t' cs hv
                split at e
                · split at e
                  · rename_i r hr
                    cases j with
                    | zero => exact ⟨_, _, hv⟩
                    | succ j =>
                      rw [show id + (j + 1) = id + 1 + j by omega]
                      exact ih hr j (by simpa [KO.vars] using hj)
                  · simp at e
                · simp at e
              · simp at e
        intro j hj
        have := this hq j hj
        rwa [Nat.zero_add] at this
      obtain ⟨us2, b1, b2, b3, b4⟩ := srcO_ov h hq (fun j hj => by
        rw [Nat.zero_add]
        exact h.pb j (by omega) (hall j hj))
      obtain ⟨g1, r1, s1, f1, ap, l1, _⟩ := normL_ok (H0 := H) [] [] h (fun _ h => h) (h2.append b1) hv
      simp only [List.nil_append, List.append_nil, List.length_nil] at f1
      have hlive : ∀ j, j < A.m → ∃ o, getH H1 j = .live o ∧ oblk g1 j o = some (A.pb j) := by
        intro j hj
        obtain ⟨t, cs, hc⟩ := s1.var j (hall j (by omega))
        refine ⟨_, hc, ?_⟩
        simp only [oblk, Option.some.injEq]
        rw [s1.blk]
        exact h.pb j hj (hall j (by omega))
      refine ⟨vs, run_results (by rw [hres]; exact h1), ⟨g1, H, H1, us1, us2, h3, b2, f1, ap, fun b hb => ⟨r1.lt b hb, r1.inI b hb⟩, fun j hj hI => ?_, hlive⟩, h.keep⟩
      obtain ⟨o, ho, hb⟩ := hlive j hj
      exact oblk_notI r1 ho hb hI
    · simp at e
  · simp at e

theorem retOut_ne (fi : FI) (h : Hint) (st : St) : (∀ v, retOut ty fi h st ≠ .norm v) ∧ ∀ id v, retOut ty fi h st ≠ .ex id v := by
  unfold retOut
  constructor
  · intro v
    repeat' split
    all_goals simp
  · intro id v
    repeat' split
    all_goals simp

/-- A CALL, with any number of calls below. -/
theorem callF_ok {cfg : Cfg} (hty : TyOk P cfg.ty) (hm : P.follows .mixedOrders = true) (hfn : ∀ f fi, cfg.fn f = some fi → FnOk P cfg.ty f fi)
    (step : ∀ cl, CallOK P cfg.ty cfg.fn cl → ∀ A, CallStep P cfg.ty cfg.fn cl A) : ∀ k, CallOK P cfg.ty cfg.fn (callF cfg k)
  | 0 => fun f fi h v r hf e => by simp [callF] at e
  | k + 1 => fun f fi h v r hf e => by
    have ih := callF_ok hty hm hfn step k
    rw [callF, hf] at e
    dsimp only at e
    obtain ⟨⟨fd, h1, h2, h3, h4⟩, h5⟩ := hfn f fi hf
    split at e
    · rename_i p hp
      split at e
      · rename_i r' hr
        simp only [Out.ret.injEq] at e
        subst e
        exact h5 p hp h v r' hr
      · simp at e
    · rename_i hp
      obtain ⟨k1, k2, k3⟩ := h4 hp
      intro A g vals w hr hvs hw hmm
      refine calls_of_wp h1 (k1 h) ?_
      rw [k2]
      refine wp_mono (exec_ok hty (step _ ih A) hm hmm (fun st v => (retOut_ne fi h st).1 v) (fun st id v => (retOut_ne fi h st).2 id v) (fi.body h) _ _ _ (.ret r) g _ w hr e (by simp)) fun ex a' w' hq => ?_
      have fin : ∀ g' st', Rel cfg.ty A g' st' a' w' → retOut cfg.ty fi h st' = .ret r → a'.defers = [] ∧ ∃ v, (results fd a'.tmps).run P w' = .ok v w' ∧ ∃ vs, v = resVal vs ∧ Res cfg.ty A (KO.vars h.ob) fi.rk r vs w' := by
        intro g' st' hr' hk
        obtain ⟨vs, q1, q2⟩ := ret_ok hty hr' hmm hk k3
        exact ⟨hr'.df, _, q1, vs, rfl, q2⟩
      cases ex with
      | normal =>
        obtain ⟨g', st', hr', hk⟩ := hq
        exact fin g' st' hr' hk
      | ret =>
        obtain ⟨g', st', hr', hk⟩ := hq
        exact fin g' st' hr' hk
      | exit id =>
        obtain ⟨_, _, _, hk, _⟩ := hq
        simp at hk
      | goto l => exact hq.elim
      | panic c => exact hq.elim
      | outgrown => exact hq.elim

end
end Go.Proofs.YtljggmbgbnmapaaGreatV
