/- A call as an operation; calls of any depth. -/
import Derived.Test.YtljggmbgbnmapaaGreatV23
namespace Go.Proofs.YtljggmbgbnmapaaGreatV
open Go
set_option linter.unusedVariables false
set_option linter.unusedSimpArgs false

section
variable {P : Program} {ty : Nat → Option TI} {fn : Nat → Option FI} {cl : Nat → Hint → List DC → Out} {A : An} {w : World}

def CT.flat : CT → Bool
  | .sl _ => false
  | _ => true

theorem rdl_flat : ∀ {ts : List CT} {x : List DC} {v : List Value} {F : List Nat}, RdL ty w ts x v F → ts.all CT.flat = true → RdL ty w ts x v []
  | _, _, _, _, .nil, _ => .nil
  | _, _, _, _, .cons t ts x xs v vs F G h1 h2, hf => by
    simp only [List.all_cons, Bool.and_eq_true] at hf
    have h3 : RdC ty w t x v [] := by
      cases h1 with
      | b x => exact .b x
      | i k n => exact .i k n
      | s l => exact .s l
      | nil e a c => exact .nil e a c
      | sl => simp [CT.flat] at hf
    exact RdL.cons t ts x xs v vs [] [] h3 (rdl_flat h2 hf.2)

theorem rdv_flat : ∀ {ts : List CT} {l : List (List DC)} {v : List Value} {F : List Nat}, RdV ty w ts l v F → ts.all CT.flat = true → RdV ty w ts l v []
  | _, _, _, _, .nil ts, _ => .nil ts
  | _, _, _, _, .cons ts x l v vs F G h1 h2, hf => RdV.cons ts x l v vs [] [] (rdl_flat h1 hf) (rdv_flat h2 hf)

/-- The same under another set of what is read alone. -/
theorem FL_reI {g : Gh} {H0 H : List HS} {v : List DC} {I2 : Nat → Prop} (hn : ∀ b, (A.w0.heap.size ≤ b ∨ A.Pm b) → ¬ g.I b → ¬ I2 b) : ∀ {n : Nat} {ks : List K1} {us : List Value}, FL ty A g H0 H w v n ks us →
    (∀ e, K1.sl e ∈ ks → ∀ (l : List (List DC)) (v : Value) (F : List Nat), RdC ty w (.sl e) (.sl l) v F → (∀ b ∈ F, g.I b) → ∃ F', RdC ty w (.sl e) (.sl l) v F' ∧ ∀ b ∈ F', I2 b) →
    (∀ e id, K1.own e id ∈ ks → ∀ (ti : TI) (l : List (List DC)) (vs : List Value) (F : List Nat), ty e = some ti → RdV ty w ti.cts l vs F → (∀ b ∈ F, g.I b) → ∃ F', RdV ty w ti.cts l vs F' ∧ ∀ b ∈ F', I2 b) →
    FL ty A { g with I := I2 } H0 H w v n ks us
  | _, [], [], _, _, _ => trivial
  | n, k :: ks, u :: us, ⟨⟨dd, h1, h2, h3⟩, h4⟩, hs, ho => by
    refine ⟨⟨dd, h1, h2, ?_⟩, FL_reI hn h4 (fun e he => hs e (by simp [he])) (fun e id he => ho e id (by simp [he]))⟩
    cases k with
    | sl e =>
      obtain ⟨l, F, q1, q2, q3⟩ := h3
      obtain ⟨F', q4, q5⟩ := hs e (by simp) l u F q2 q3
      exact ⟨l, F', q1, q4, q5⟩
    | own e id =>
      obtain ⟨l, q1, q2⟩ := h3
      obtain ⟨ti, vs, F, z1, z2, z3, z4, z5⟩ := q2.row
      obtain ⟨F', z6, z7⟩ := ho e id (by simp) ti l vs F z1 z4 z5
      refine ⟨l, q1, ⟨ti, vs, F', z1, z2, z3, z6, z7⟩, fun b hb => ?_⟩
      obtain ⟨y1, y2, y3⟩ := q2.own b hb
      refine ⟨hn b y2 y1, y2, fun i p hi => ?_⟩
      have := y3 i p hi
      rwa [oblk_same rfl rfl]
    | _ => exact h3
  | _, [], _ :: _, h, _, _ => h.elim
  | _, _ :: _, [], h, _, _ => h.elim

theorem RVs.length : ∀ {rk : List (Bool × List RK)} {vs us : List Value}, RVs rk vs us → us.length = (rk.flatMap Prod.snd).length
  | [], [], us, h => by rw [show us = [] from h]; rfl
  | (a, l) :: rk, v :: vs, us, ⟨u1, u2, h1, h2, h3, h4, h5⟩ => by
    subst h1
    simp [h2, RVs.length h5]
  | [], _ :: _, _, h => h.elim
  | _ :: _, [], _, h => h.elim

theorem run_callFunc {f : FuncId} {fd : Func} {vals : Array Value} (h1 : P.funcs[f]? = some fd) (h2 : (fd.name == "runtime.NumGoroutine") = false) (h3 : fd.body.isNone = false) (w : World) : (callFunc f vals).run P w = .ok (.enter f vals) w := by
  have h3' : fd.body ≠ none := by intro h; rw [h] at h3; simp at h3
  have h2' : fd.name ≠ "runtime.NumGoroutine" := by intro h; rw [h] at h2; simp at h2
  unfold callFunc
  simp [h1, h2', h3']

theorem run_enter {o : Oper} {c : Call} {fop : Operand} {a : Act} {f : FuncId} {xs : Array Value} {fd : Func} (ho : o.op = .call c) (hc : c.callee = .value fop) (hf : a.eval fop = .func (.func f) #[] xs) (h1 : P.funcs[f]? = some fd)
    (h2 : (fd.name == "runtime.NumGoroutine") = false) (h3 : fd.body.isNone = false) (w : World) : (execOp a.eval o).run P w = .ok (.enter f (c.args.map a.eval ++ xs)) w := by
  have := run_callFunc (P := P) (vals := c.args.map a.eval ++ xs) h1 h2 h3 w
  simp only [execOp, ho, resolve, hc, hf, Deferred.ofValue, Sem.run_bind, Sem.run_pure, Result.andThen_ok, invoke]
  rw [show (#[] ++ c.args.map a.eval : Array Value) = c.args.map a.eval by simp]
  exact this

theorem rkK_flat : ∀ {L : List RK} {i : Nat}, L.all (RK.flat ty) = true → (∀ e, K1.sl e ∉ rkK i L) ∧ ∀ e id, K1.own e id ∈ rkK i L → ∀ ti, ty e = some ti → ti.cts.all CT.flat = true
  | [], i, _ => ⟨fun e h => by simp [rkK] at h, fun e id h => by simp [rkK] at h⟩
  | r :: L, i, h => by
    simp only [List.all_cons, Bool.and_eq_true] at h
    obtain ⟨a, b⟩ := rkK_flat (i := r.nx i) h.2
    refine ⟨fun e he => ?_, fun e id he ti hti => ?_⟩
    · simp only [rkK, List.mem_cons] at he
      rcases he with he | he
      · cases r with
        | ct c =>
          cases c with
          | sl e' => simp [RK.flat] at h
          | _ => simp [RK.k1, CT.k1] at he
        | new e' => simp [RK.k1] at he
      · exact a e he
    · simp only [rkK, List.mem_cons] at he
      rcases he with he | he
      · cases r with
        | ct c => cases c <;> simp [RK.k1, CT.k1] at he
        | new e' =>
          simp only [RK.k1, K1.own.injEq] at he
          obtain ⟨rfl, _⟩ := he
          have h1 := h.1
          simp only [RK.flat, hti] at h1
          rw [List.all_eq_true] at h1 ⊢
          intro c hc
          have := h1 c hc
          cases c <;> simp_all [CT.flat]
      · exact b e id he ti hti

theorem call_step (hfn : ∀ f fi, fn f = some fi → FnOk P ty f fi) (hcl : CallOK P ty fn cl) (A : An) : CallStep P ty fn cl A := by
  intro o c fop f caps base tm H H' v g a w Q ho hc hf h e
  unfold callR at e
  dsimp only at e
  split at e
  · simp at e
  · rename_i fi hfi
    split at e
    · rename_i kcs kos e1 e2
      split at e
      · rename_i p q e3 e4
        split at e
        · rename_i v0 H1 e5
          split at e
          · rename_i hchk
            split at e
            · rename_i r hr
              simp only [Bool.and_eq_true] at hchk
              obtain ⟨⟨hnd, hcapv⟩, hok⟩ := hchk
              obtain ⟨⟨fd, d1, d2, d3, _⟩, _⟩ := hfn f fi hfi
              have rf := h.opd fop
              rw [hf] at rf
              obtain ⟨xs, x1, x2, x3⟩ := rf
              have hrun := run_enter (P := P) ho hc x1 d1 d2 d3 w
              obtain ⟨vs0, y1, y2, y3⟩ := opds_map h c.args.toList _ rfl
              have hcc : ∀ (i : Nat) (s : C) (u : Value), (opds tm c.args.toList ++ caps.map fun id => C.one (.ptr id 0))[i]? = some s → (vs0 ++ xs.toList)[i]? = some u → CR ty g H w s u := by
                intro i s u hs hu
                rcases Nat.lt_or_ge i vs0.length with h' | h'
                · rw [List.getElem?_append_left (by omega)] at hs
                  rw [List.getElem?_append_left h'] at hu
                  exact y3 i s u hs hu
                · rw [List.getElem?_append_right (by omega), List.getElem?_map] at hs
                  rw [List.getElem?_append_right h', y2] at hu
                  cases hid : caps[i - (opds tm c.args.toList).length]? with
                  | none => rw [hid] at hs; simp at hs
                  | some id =>
                    rw [hid] at hs
                    simp only [Option.map_some, Option.some.injEq] at hs
                    subst hs
                    obtain ⟨z1, z2⟩ := x3 _ id hid
                    have hv : isVar H id := by
                      have := List.all_eq_true.1 hcapv id (List.mem_of_getElem? hid)
                      unfold isVarB at this
                      split at this
                      · rename_i hh; exact ⟨_, _, hh⟩
                      · simp at this
                    have := z2 hv
                    rw [Array.getElem?_toList, this] at hu
                    simp only [Option.some.injEq] at hu
                    subst hu
                    exact ⟨z1, rfl, fun _ => rfl⟩
              obtain ⟨g1, Ac, gc, r1, s1, hbeg, hI0, hplain, hrel, hlen⟩ := start_ok h (fi := fi) (vals := vs0 ++ xs.toList) (by simp [y2, x2]) hcc e1 e2 e3 e4 e5 hnd hok
              obtain ⟨k1, k2, k3, k4⟩ := objK_ok e2
              have hvars : KO.vars (kos ++ List.replicate (fi.pk.filter PK.isMv).length .u) = kos := vars_all _ k2
              have hvals : (vs0 ++ xs.toList).toArray = c.args.map a.eval ++ xs := by
                apply Array.toList_inj.1
                simp [← y1]
              have hcalls := hcl f fi _ v0 r hfi hr Ac gc (c.args.map a.eval ++ xs) w (by rw [← hvals]; exact hrel) (by rw [← hvals]; simpa using hlen) hbeg.w0 (by dsimp only; rw [hvars, hbeg.m]; exact k1.symm)
              unfold Oper.wp
              rw [hrun]
              show Calls P f _ w _
              refine Calls.mono hcalls fun en w' hen => ?_
              cases en with
              | returned rv =>
                obtain ⟨vs, rfl, hres⟩ := hen
                obtain ⟨⟨gr, H0r, H1r, us1, us2, q1, q2, q3, q4, q5, q6, q7⟩, hkeep⟩ := hres
                dsimp only at q2 q3 q4
                rw [hvars] at q2 q3 q4
                have hus1 : us1.length = (rkAll 0 fi.rk).length := by rw [q1.length]; simp only [rkAll]; rw [(rkK_len _ _).1]
                show Post ty A g H w _ _ w'
                have fin : ∀ (gB : Gh) (H2 : List HS), (∃ g2, Rel ty A g2 ⟨tm, H2⟩ a w' ∧ (∀ b, gB.I b → g2.I b) ∧ CR ty g2 H2 w' (resC r base fi.rk) (resVal vs)) → (∀ b, g.I b → gB.I b) → some (H2, resC r base fi.rk) = some (H', v) →
                    Post ty A g H w ⟨putC tm o.dst v, H'⟩ (a.put o.dst (resVal vs)) w' := by
                  intro gB H2 hx hgI he
                  simp only [Option.some.injEq, Prod.mk.injEq] at he
                  obtain ⟨rfl, rfl⟩ := he
                  obtain ⟨g2, z1, z2, z3⟩ := hx
                  exact ⟨g2, z1.put o.dst z3, fun b hb => z2 b (hgI b hb)⟩
                split at e
                · rename_i hflat
                  simp only [Bool.and_eq_true] at hflat
                  obtain ⟨hfl, hpl⟩ := hflat
                  obtain ⟨hidn, _⟩ := argK_plain hpl e1
                  rw [hidn] at k1 hbeg
                  have hk0 : kos = [] := List.eq_nil_of_length_eq_zero k1
                  subst hk0
                  have hPm := hplain hpl
                  split at e
                  · rename_i H2 hput
                    refine fin g H2 ?_ (fun _ h => h) e
                    have hflatL : (fi.rk.flatMap Prod.snd).all (RK.flat ty) = true := by
                      rw [List.all_flatMap]
                      exact hfl
                    have hkf := rkK_flat (ty := ty) (i := 0) hflatL
                    have hm0 : Ac.m = 0 := hbeg.m
                    have hf2 : FL ty Ac { gr with I := g.I } H0r H1r w' r 0 (rkAll 0 fi.rk ++ ([] : List KO).flatMap KO.kinds) (us1 ++ us2) := by
                      refine FL_reI (fun b hb _ => ?_) q3 (fun e he => ?_) (fun e id he ti l vs F hti hrd _ => ?_)
                      · rcases hb with hb | hb
                        · rw [hbeg.w0] at hb
                          exact fun hI => absurd (h.lt b hI) (by omega)
                        · exact absurd hb (hPm b)
                      · simp only [List.flatMap_nil, List.append_nil] at he
                        exact absurd he (hkf.1 e)
                      · simp only [List.flatMap_nil, List.append_nil] at he
                        exact ⟨[], rdv_flat hrd (hkf.2 e id he ti hti), fun _ h => by cases h⟩
                    exact after_call h (ids := []) (Ac := Ac) (kos := []) (gr := { gr with I := g.I }) ⟨hbeg.w0, hbeg.m, fun j id hj => by simp at hj, fun b hb => by
                        obtain ⟨id, hid, _⟩ := hbeg.Pv b hb
                        simp at hid, fun b hb => absurd hb (hPm b), fun id hid => by simp at hid⟩ rfl (fun k hk => by simp at hk) q1 q2 hf2 q4 (fun _ h => h)
                      (fun b hb => ⟨Nat.lt_of_lt_of_le (h.lt b hb) (by have := hkeep.size; rwa [hbeg.w0] at this), .inl hb⟩) (fun j hj => by simp at hj) (fun j hj => by simp at hj) hkeep rfl hus1 hput
                  · simp at e
                · rename_i hflat
                  split at e
                  · rename_i H2 hput
                    refine fin g1 H2 ?_ s1.I e
                    have hf2 : FL ty Ac { gr with I := fun b => g1.I b ∨ gr.I b } H0r H1r w' r 0 (rkAll 0 fi.rk ++ kos.flatMap KO.kinds) (us1 ++ us2) := by
                      refine FL_reI (fun b hb hnb hI => ?_) q3 (fun e he l v F hrd hF => ⟨F, hrd, fun b hb => .inr (hF b hb)⟩) (fun e id he ti l vs F hti hrd hF => ⟨F, hrd, fun b hb => .inr (hF b hb)⟩)
                      rcases hI with hI | hI
                      · rcases hb with hb | hb
                        · rw [hbeg.w0] at hb
                          exact absurd (r1.lt b hI) (by omega)
                        · exact (hbeg.Pm b hb).2.1 hI
                      · exact hnb hI
                    have hsz : w.heap.size ≤ w'.heap.size := by have := hkeep.size; rwa [hbeg.w0] at this
                    refine after_call r1 hbeg (gr := { gr with I := fun b => g1.I b ∨ gr.I b }) k1 k4 q1 q2 hf2 q4 (fun _ h => .inl h) (fun b hb => ?_) (fun j hj hI => ?_) (fun j hj => ?_) hkeep hnd hus1 hput
                    · rcases hb with hb | hb
                      · exact ⟨Nat.lt_of_lt_of_le (r1.lt b hb) hsz, .inl hb⟩
                      · obtain ⟨z1, z2⟩ := q5 b hb
                        rw [hI0, hbeg.w0] at z2
                        exact ⟨z1, z2⟩
                    · have hj' : j < Ac.m := by rw [hbeg.m]; exact hj
                      rcases hI with hI | hI
                      · rw [hbeg.pb j _ (List.getElem?_eq_getElem hj)] at hI
                        obtain ⟨t, cs, hc⟩ := hbeg.var _ (List.getElem_mem hj)
                        exact oblk_notI r1 hc rfl hI
                      · exact q6 j hj' hI
                    · obtain ⟨o', z1, z2⟩ := q7 j (by rw [hbeg.m]; exact hj)
                      exact ⟨o', z1, by rw [oblk_same rfl rfl]; exact z2⟩
                  · simp at e
              | panicked ch => exact hen.elim
              | outgrown => exact hen.elim
            · simp at e
          · simp at e
        · simp at e
      · simp at e
    · simp at e

/-- CALLS OF ANY DEPTH. -/
theorem callF_sound {cfg : Cfg} (hty : TyOk P cfg.ty) (hm : P.follows .mixedOrders = true) (hfn : ∀ f fi, cfg.fn f = some fi → FnOk P cfg.ty f fi) (k : Nat) : CallOK P cfg.ty cfg.fn (callF cfg k) :=
  callF_ok hty hm hfn (fun cl hcl A => call_step hfn hcl A) k

end
end Go.Proofs.YtljggmbgbnmapaaGreatV
#print axioms Go.Proofs.YtljggmbgbnmapaaGreatV.callF_sound
