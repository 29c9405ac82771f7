/- Operations of a region that may come in any order: what does not bear on each other commutes. -/
import Derived.Test.YtljggmbgbnmapaaGreatV15
namespace Go.Proofs.YtljggmbgbnmapaaGreatV
open Go
set_option linter.unusedVariables false
set_option linter.unusedSimpArgs false

section
variable {ty : Nat → Option TI} {fn : Nat → Option FI} {cl : Nat → Hint → List DC → Out}

abbrev V3 := Option (Cls × List HS × C)
abbrev mk3 : Cls → List HS → C → V3 := fun c H v => some (c, H, v)

/-- An operation looks at its operands alone. -/
theorem stepV_congr {base : Nat} {o : Oper} {tm tm' : List C} {H : List HS} (h : ∀ x ∈ o.op.operands, opd tm x = opd tm' x) :
    stepV ty fn cl (none : V3) base o tm H mk3 = stepV ty fn cl none base o tm' H mk3 := by
  have hl : ∀ l : List Operand, (∀ x ∈ l, opd tm x = opd tm' x) → opds tm l = opds tm' l := by
    intro l
    induction l with
    | nil => intro _; rfl
    | cons x l ih => intro hx; simp [opds, hx x (by simp), ih fun y hy => hx y (by simp [hy])]
  have hp : ∀ parts : List (Nat × Operand), (∀ p ∈ parts, opd tm p.2 = opd tm' p.2) → (parts.map fun p => (p.1, opd tm p.2)) = parts.map fun p => (p.1, opd tm' p.2) :=
    fun parts hx => List.map_congr_left fun p hp => by rw [hx p hp]
  obtain ⟨dst, op, type, pos, after, guard⟩ := o
  cases op with
  | move x => simp only [Op.operands] at h; simp only [stepV, h x (by simp)]
  | assign x => simp only [Op.operands] at h; simp only [stepV, h x (by simp)]
  | pick c x y => simp only [Op.operands] at h; simp only [stepV, h c (by simp), h x (by simp), h y (by simp)]
  | box t x => simp only [Op.operands] at h; simp only [stepV, h x (by simp)]
  | build t ps => simp only [Op.operands] at h; simp only [stepV, hp ps.toList fun p hp => h p.2 (by simp; exact ⟨p.1, by simpa using hp⟩)]
  | buildSlice t n ps => simp only [Op.operands] at h; simp only [stepV, hp ps.toList fun p hp => h p.2 (by simp; exact ⟨p.1, by simpa using hp⟩)]
  | load t x => simp only [Op.operands] at h; simp only [stepV, h x (by simp)]; rfl
  | store t x y => simp only [Op.operands] at h; simp only [stepV, h x (by simp), h y (by simp)]; cases dst <;> rfl
  | nilCheck x => simp only [Op.operands] at h; simp only [stepV, h x (by simp)]
  | binOp op t x y t' => simp only [Op.operands] at h; simp only [stepV, h x (by simp), h y (by simp)]
  | unOp op t x => simp only [Op.operands] at h; simp only [stepV, h x (by simp)]
  | convert s t x => simp only [Op.operands] at h; simp only [stepV, h x (by simp)]; rfl
  | makeFunc f first captured => simp only [Op.operands] at h; simp only [stepV, hl captured.toList fun x hx => h x (by simp at hx ⊢; exact .inr hx)]
  | makeSlice t x y => simp only [Op.operands] at h; simp only [stepV, h x (by simp), h y (by simp)]
  | slice t x lo hi mx =>
    simp only [Op.operands] at h
    have h1 : lo.map (opd tm) = lo.map (opd tm') := by cases lo <;> simp; exact h _ (by simp)
    have h2 : hi.map (opd tm) = hi.map (opd tm') := by cases hi <;> simp; exact h _ (by simp)
    simp only [stepV, h x (by simp), h1, h2]
    cases mx <;> rfl
  | fieldAddr t x j => simp only [Op.operands] at h; simp only [stepV, h x (by simp)]
  | field t x j => simp only [Op.operands] at h; simp only [stepV, h x (by simp)]
  | indexAddr t x i => simp only [Op.operands] at h; simp only [stepV, h x (by simp), h i (by simp)]; cases isSlice (ty t) <;> rfl
  | index t x i => simp only [Op.operands] at h; simp only [stepV, h x (by simp), h i (by simp)]
  | extract x j => simp only [Op.operands] at h; simp only [stepV, h x (by simp)]
  | call c =>
    simp only [Op.operands, Call.operands] at h
    have hargs := hl c.args.toList fun x hx => h x (by simp; exact .inr (by simpa using hx))
    cases hc : c.callee with
    | value f =>
      rw [hc] at h
      simp only [stepV, hc, hargs, h f (by simp)]
      split <;> rfl
    | builtin b =>
      simp only [stepV, hc, hargs]
      split
      all_goals first | rfl | (repeat' split) <;> rfl
    | invoke r m => simp only [stepV, hc]
  | _ => rfl

/-- What a class says. -/
def ClsOk (f : List HS → V3) (H : List HS) : Prop :=
  ∀ c H' v, f H = some (c, H', v) → (c = .t → H' = H ∧ ∀ H3, f H3 = some (.t, H3, v)) ∧ (c = .r → H' = H)

theorem loadR_cls {t : Nat} {tm : List C} {a : C} (H : List HS) : ClsOk (fun H => loadR ty (none : V3) t ⟨tm, H⟩ a fun c v => mk3 c H v) H := by
  intro c H' v e
  dsimp only at e
  unfold loadR at e
  dsimp only at e
  repeat' split at e
  all_goals first
    | (simp at e; done)
    | (obtain ⟨rfl, rfl, rfl⟩ := cls_some e; refine ⟨fun h => ?_, fun _ => rfl⟩; first | (simp at h; done) | (refine ⟨rfl, fun H3 => ?_⟩; simp_all [loadR]))

theorem convR_cls {s t : Nat} {tm : List C} {x : C} (H : List HS) : ClsOk (fun H => convR ty (none : V3) s t ⟨tm, H⟩ x mk3) H := by
  intro c H' v e
  dsimp only at e
  unfold convR at e
  dsimp only at e
  repeat' split at e
  all_goals first
    | (simp at e; done)
    | (obtain ⟨rfl, rfl, rfl⟩ := cls_some e; refine ⟨fun h => ?_, fun _ => rfl⟩; first | (simp at h; done) | (refine ⟨rfl, fun H3 => ?_⟩; simp_all [convR, sliceOf]))

theorem cutR_some2 {α : Type} {lo hi : Option C} {l : List α} {k : List α → V3} {r : Cls × List HS × C} (e : cutR none lo hi l k = some r) : ∃ l', cutR none lo hi l some = some l' ∧ k l' = some r := by
  rw [cutR_par] at e
  cases h : cutR none lo hi l some with
  | none => rw [h] at e; simp [via] at e
  | some l' => rw [h] at e; exact ⟨l', rfl, e⟩

theorem cutR_of {α : Type} {lo hi : Option C} {l : List α} {k : List α → V3} {l' : List α} (e : cutR none lo hi l some = some l') : cutR none lo hi l k = k l' := by
  rw [cutR_par, e]
  rfl

theorem sliceR_cls {t : Nat} {tm : List C} {x : C} {lo hi : Option C} (H : List HS) : ClsOk (fun H => sliceR ty (none : V3) t ⟨tm, H⟩ x lo hi mk3) H := by
  intro c H' v e
  simp only [sliceR] at e
  split at e
  · rename_i ti ht
    split at e
    · rename_i l hk
      obtain ⟨l', h1, h2⟩ := cutR_some2 e
      obtain ⟨rfl, rfl, rfl⟩ := cls_some h2
      refine ⟨fun _ => ⟨rfl, fun H3 => ?_⟩, fun h => by simp at h⟩
      simp only [sliceR, ht, hk]
      exact cutR_of h1
    · rename_i el el' l hk
      split at e
      · rename_i hc
        obtain ⟨l', h1, h2⟩ := cutR_some2 e
        obtain ⟨rfl, rfl, rfl⟩ := cls_some h2
        refine ⟨fun _ => ⟨rfl, fun H3 => ?_⟩, fun h => by simp at h⟩
        simp only [sliceR, ht, hk]
        rw [if_pos hc]
        exact cutR_of h1
      · simp at e
    · rename_i el id hk
      split at e
      · split at e
        · obtain ⟨l', h1, h2⟩ := cutR_some2 e
          obtain ⟨rfl, rfl, rfl⟩ := cls_some h2
          exact ⟨fun h => by simp at h, fun h => by simp at h⟩
        · simp at e
      · split at e
        · obtain ⟨l', h1, h2⟩ := cutR_some2 e
          obtain ⟨rfl, rfl, rfl⟩ := cls_some h2
          exact ⟨fun h => by simp at h, fun _ => rfl⟩
        · simp at e
      · simp at e
    · simp at e
  · simp at e

theorem indexR_cls {e0 : Nat} {tm : List C} {x i : C} (H : List HS) : ClsOk (fun H => indexR (none : V3) e0 ⟨tm, H⟩ x i fun c v => mk3 c H v) H := by
  intro c H' v e
  dsimp only at e
  unfold indexR at e
  dsimp only at e
  repeat' split at e
  all_goals first
    | (simp at e; done)
    | (obtain ⟨rfl, rfl, rfl⟩ := cls_some e; refine ⟨fun h => ?_, fun _ => rfl⟩; first | (simp at h; done) | (refine ⟨rfl, fun H3 => ?_⟩; simp_all [indexR]))

theorem lenR_cls {tm : List C} {x : C} (H : List HS) : ClsOk (fun H => lenR (none : V3) ⟨tm, H⟩ x fun c v => mk3 c H v) H := by
  intro c H' v e
  dsimp only at e
  unfold lenR at e
  dsimp only at e
  repeat' split at e
  all_goals first
    | (simp at e; done)
    | (obtain ⟨rfl, rfl, rfl⟩ := cls_some e; refine ⟨fun h => ?_, fun _ => rfl⟩; first | (simp at h; done) | (refine ⟨rfl, fun H3 => ?_⟩; simp_all [lenR]))

theorem toDC_noOwn {H H' : List HS} {t : CT} {s : S} {d : DC} (hs : s.noOwn = true) (e : toDC H t s = some (d, H')) : H' = H := by
  unfold toDC at e
  split at e
  all_goals first
    | (simp at e; done)
    | (simp only [Option.some.injEq, Prod.mk.injEq] at e; exact e.2.symm)
    | (split at e
       · simp only [Option.some.injEq, Prod.mk.injEq] at e; exact e.2.symm
       · simp at e)
    | (simp [S.noOwn] at hs)

theorem normK1_noOwn {H H' : List HS} {k : K1} {s : S} {d : List DC} (hs : s.noOwn = true) (e : normK1 ty H k s = some (d, H')) : H' = H := by
  unfold normK1 at e
  split at e
  case h_5 =>
    split at e
    · rename_i hd
      simp only [Option.some.injEq, Prod.mk.injEq] at e
      rw [← e.2]
      exact toDC_noOwn hs hd
    · simp at e
  case h_6 => simp [S.noOwn] at hs
  case h_7 =>
    split at e
    · split at e
      · simp only [Option.some.injEq, Prod.mk.injEq] at e; exact e.2.symm
      · simp at e
    · simp at e
  all_goals first
    | (simp at e; done)
    | (simp only [Option.some.injEq, Prod.mk.injEq] at e; exact e.2.symm)
    | (split at e
       · simp only [Option.some.injEq, Prod.mk.injEq] at e; exact e.2.symm
       · simp at e)

theorem normL_noOwn : ∀ {ks : List K1} {ss : List S} {H H' : List HS} {d : List DC}, ss.all S.noOwn = true → normL ty H ks ss = some (d, H') → H' = H
  | [], [], H, H', d, _, e => by
    simp only [normL, Option.some.injEq, Prod.mk.injEq] at e
    exact e.2.symm
  | k :: ks, s :: ss, H, H', d, hs, e => by
    simp only [List.all_cons, Bool.and_eq_true] at hs
    simp only [normL] at e
    split at e
    · rename_i d1 H1 h1
      split at e
      · rename_i d2 H2 h2
        simp only [Option.some.injEq, Prod.mk.injEq] at e
        obtain rfl := normK1_noOwn hs.1 h1
        rw [← e.2]
        exact normL_noOwn hs.2 h2
      · simp at e
    · simp at e
  | [], _ :: _, _, _, _, _, e => by simp [normL] at e
  | _ :: _, [], _, _, _, _, e => by simp [normL] at e

theorem srcT_noOwn : ∀ {ks : List KC} {cs : List C} {p : List S}, cs.all C.noOwn = true → srcT ks cs = some p → p.all S.noOwn = true
  | [], [], p, _, e => by
    simp only [srcT, Option.some.injEq] at e
    subst e
    rfl
  | k :: ks, c :: cs, p, hc, e => by
    simp only [List.all_cons, Bool.and_eq_true] at hc
    unfold srcT at e
    split at e
    · rename_i heq _; simp at heq
    · rename_i ks' c' cs' hk hcc
      simp only [List.cons.injEq] at hk hcc
      obtain ⟨rfl, rfl⟩ := hk
      obtain ⟨rfl, rfl⟩ := hcc
      split at e
      · rename_i r hr
        simp only [Option.some.injEq] at e
        subst e
        simp [S.noOwn, srcT_noOwn hc.2 hr]
      · simp at e
    · rename_i k1 ks' s cs' _ hk hcc
      simp only [List.cons.injEq] at hk hcc
      obtain ⟨rfl, rfl⟩ := hk
      obtain ⟨rfl, rfl⟩ := hcc
      split at e
      · rename_i r hr
        simp only [Option.some.injEq] at e
        subst e
        have := hc.1
        simp only [C.noOwn] at this
        simp [this, srcT_noOwn hc.2 hr]
      · simp at e
    · rename_i l ks' ss cs' hk hcc
      simp only [List.cons.injEq] at hk hcc
      obtain ⟨rfl, rfl⟩ := hk
      obtain ⟨rfl, rfl⟩ := hcc
      split at e
      · split at e
        · rename_i r hr
          simp only [Option.some.injEq] at e
          subst e
          have := hc.1
          simp only [C.noOwn] at this
          rw [List.all_append, this, srcT_noOwn hc.2 hr]
          rfl
        · simp at e
      · simp at e
    · simp at e
  | [], _ :: _, _, _, e => by simp [srcT] at e
  | .one _ :: _, [], _, _, e => by simp [srcT] at e
  | .agg _ :: _, [], _, _, e => by simp [srcT] at e

theorem putRows_ct (v : List DC) : ∀ {L : List RK} {i n : Nat} {H H2 : List HS}, L.all RK.isCt = true → putRows v n (rkK i L) H = some H2 → H2 = H
  | [], i, n, H, H2, _, e => by
    simp only [rkK, putRows, Option.some.injEq] at e
    exact e.symm
  | r :: L, i, n, H, H2, h, e => by
    simp only [List.all_cons, Bool.and_eq_true] at h
    cases r with
    | ct c => cases c <;> exact putRows_ct v h.2 e
    | new el => simp [RK.isCt] at h

theorem toDC_indep {H H' H3 : List HS} {t : CT} {s : S} {d : DC} (hs : s.noOwn = true) (e : toDC H t s = some (d, H')) : toDC H3 t s = some (d, H3) := by
  unfold toDC at e ⊢
  split at e
  all_goals first
    | (simp at e; done)
    | (simp only [Option.some.injEq, Prod.mk.injEq] at e; obtain ⟨rfl, _⟩ := e; rfl)
    | (split at e
       · rename_i hc; simp only [Option.some.injEq, Prod.mk.injEq] at e; obtain ⟨rfl, _⟩ := e; simp [hc]
       · simp at e)
    | (simp [S.noOwn] at hs)

theorem normK1_indep {H H' H3 : List HS} {k : K1} {s : S} {d : List DC} (hs : s.noOwn = true) (e : normK1 ty H k s = some (d, H')) : normK1 ty H3 k s = some (d, H3) := by
  unfold normK1 at e ⊢
  split at e
  case h_5 =>
    split at e
    · rename_i hd
      simp only [Option.some.injEq, Prod.mk.injEq] at e
      obtain ⟨rfl, _⟩ := e
      rw [toDC_indep hs hd]
    · simp at e
  case h_6 => simp [S.noOwn] at hs
  case h_7 =>
    split at e
    · rename_i hte
      split at e
      · rename_i hc
        simp only [Option.some.injEq, Prod.mk.injEq] at e
        obtain ⟨rfl, _⟩ := e
        simp only [hte, hc, if_true]
      · simp at e
    · simp at e
  all_goals first
    | (simp at e; done)
    | (simp only [Option.some.injEq, Prod.mk.injEq] at e; obtain ⟨rfl, _⟩ := e; rfl)
    | (split at e
       · rename_i hc; simp only [Option.some.injEq, Prod.mk.injEq] at e; obtain ⟨rfl, _⟩ := e; simp [hc]
       · simp at e)

theorem normL_indep : ∀ {ks : List K1} {ss : List S} {H H' : List HS} {d : List DC} (H3 : List HS), ss.all S.noOwn = true → normL ty H ks ss = some (d, H') → normL ty H3 ks ss = some (d, H3)
  | [], [], H, H', d, H3, _, e => by
    simp only [normL, Option.some.injEq, Prod.mk.injEq] at e
    rw [← e.1]
    rfl
  | k :: ks, s :: ss, H, H', d, H3, hs, e => by
    simp only [List.all_cons, Bool.and_eq_true] at hs
    simp only [normL] at e ⊢
    split at e
    · rename_i d1 H1 h1
      split at e
      · rename_i d2 H2 h2
        simp only [Option.some.injEq, Prod.mk.injEq] at e
        obtain ⟨rfl, _⟩ := e
        rw [normK1_indep (H3 := H3) hs.1 h1]
        dsimp only
        rw [normL_indep H3 hs.2 h2]
      · simp at e
    · simp at e
  | [], _ :: _, _, _, _, _, _, e => by simp [normL] at e
  | _ :: _, [], _, _, _, _, _, e => by simp [normL] at e

theorem putRows_ct2 (v : List DC) : ∀ {L : List RK} {i n : Nat} {H : List HS}, L.all RK.isCt = true → putRows v n (rkK i L) H = some H
  | [], i, n, H, _ => by simp only [rkK, putRows]
  | r :: L, i, n, H, h => by
    simp only [List.all_cons, Bool.and_eq_true] at h
    cases r with
    | ct c => cases c <;> (show putRows v (n + 1) (rkK i L) H = some H; exact putRows_ct2 v h.2)
    | new el => simp [RK.isCt] at h

theorem callR_t {base f : Nat} {tm : List C} {H H' : List HS} {caps : List Nat} {args : List C} {v : C} (hc : callCls fn f caps args = .t) (e : callR ty fn cl none base ⟨tm, H⟩ f caps args (fun H v => some (H, v)) = some (H', v)) :
    H' = H ∧ ∀ H3, callR ty fn cl none base ⟨tm, H3⟩ f caps args (fun H v => some (H, v)) = some (H3, v) := by
  unfold callCls at hc
  cases hf : fn f with
  | none => rw [hf] at hc; simp at hc
  | some fi =>
    rw [hf] at hc
    dsimp only at hc
    split at hc
    · rename_i h1 h2 h3
      suffices key : ∀ H3, H' = H ∧ callR ty fn cl none base ⟨tm, H3⟩ f [] args (fun H v => some (H, v)) = some (H3, v) from ⟨(key H).1, fun H3 => (key H3).2⟩
      intro H3
      unfold callR at e ⊢
      rw [hf] at e
      simp only [hf]
      dsimp only at e ⊢
      simp only [List.map_nil, List.append_nil, h1] at e ⊢
      split at e
      · rename_i kcs kos e1 e2
        simp only [objK, Option.some.injEq] at e2
        subst e2
        simp only [List.length_nil] at e1
        simp only [objK, List.length_nil, e1]
        split at e
        · rename_i p q e3 e4
          simp only [srcV, Option.some.injEq] at e4
          subst e4
          simp only [srcV, e3]
          split at e
          · rename_i v0 H1 e5
            have hno := normL_noOwn (by rw [List.append_nil]; exact srcT_noOwn h2 e3) e5
            have e6 := normL_indep H3 (by rw [List.append_nil]; exact srcT_noOwn h2 e3) e5
            rw [e6]
            dsimp only
            have hrk : (fi.rk.flatMap Prod.snd).all RK.isCt = true := by
              rw [List.all_flatMap]
              exact h3
            split at e
            · rename_i hok
              have hok2 : (nodupB [] && (([] : List Nat).all (isVarB H3)) && ({ tm := kcs, ob := [] ++ List.replicate (fi.pk.filter PK.isMv).length .u } : Hint).ok) = true := by
                simp only [Bool.and_eq_true] at hok ⊢
                exact ⟨⟨hok.1.1, rfl⟩, hok.2⟩
              rw [if_pos hok2]
              split at e
              · rename_i r hr
                have pr : ∀ HH, putRows r 0 (rkAll base fi.rk) HH = some HH := fun HH => putRows_ct2 r hrk
                have pv : ∀ m HH, putVars r m [] [] HH = HH := fun m HH => by rw [putVars]; intro _ _ _ _ _ h; simp at h
                split at e
                · rw [pr] at e ⊢
                  simp only [Option.some.injEq, Prod.mk.injEq] at e ⊢
                  exact ⟨e.1.symm, trivial, e.2⟩
                · rw [pv] at e ⊢
                  rw [pr] at e ⊢
                  simp only [Option.some.injEq, Prod.mk.injEq] at e ⊢
                  exact ⟨by rw [← e.1, hno], trivial, e.2⟩
              · simp at e
            · simp at e
          · simp at e
        · simp at e
      · simp at e
    · simp at hc

theorem stepV_cls {base : Nat} {o : Oper} {tm : List C} (H : List HS) : ClsOk (fun H => stepV ty fn cl (none : V3) base o tm H mk3) H := by
  obtain ⟨dst, op, type, pos, after, guard⟩ := o
  have triv : ∀ v : C, ClsOk (fun H => (some (Cls.t, H, v) : V3)) H := by
    intro v c H' v' e
    obtain ⟨rfl, rfl, rfl⟩ := cls_some e
    exact ⟨fun _ => ⟨rfl, fun _ => rfl⟩, fun h => by simp at h⟩
  have none_ok : ClsOk (fun _ => (none : V3)) H := fun c H' v e => by simp at e
  cases op with
  | move x => exact triv _
  | assign x => exact triv _
  | load t x => exact loadR_cls H
  | convert s t x => exact convR_cls H
  | slice t x lo hi mx =>
    cases mx with
    | none => exact sliceR_cls H
    | some m => exact none_ok
  | indexAddr t x i =>
    simp only [stepV]
    cases isSlice (ty t) with
    | none => exact none_ok
    | some e => exact indexR_cls H
  | binOp op t x y t' =>
    intro c H' v e
    simp only [stepV] at e ⊢
    rw [binR_par] at e
    cases hl : binR ty none op t (opd tm x) (opd tm y) some with
    | none => rw [hl] at e; simp [via] at e
    | some r =>
      rw [hl] at e
      obtain ⟨rfl, rfl, rfl⟩ := cls_some e
      refine ⟨fun _ => ⟨rfl, fun H3 => ?_⟩, fun h => by simp at h⟩
      rw [binR_par, hl]
      rfl
  | call c =>
    cases hc : c.callee with
    | value f =>
      intro c' H' v e
      simp only [stepV, hc] at e
      split at e
      · rename_i f' caps hf
        rw [callR_par] at e
        cases hl : callR ty fn cl none base ⟨tm, H⟩ f' caps (opds tm c.args.toList) fun H v => some (H, v) with
        | none => rw [hl] at e; simp [via] at e
        | some r =>
          rw [hl] at e
          obtain ⟨rfl, rfl, rfl⟩ := cls_some e
          refine ⟨fun h => ?_, fun h => ?_⟩
          · obtain ⟨k1, k2⟩ := callR_t h hl
            refine ⟨k1, fun H3 => ?_⟩
            simp only [stepV, hc, hf]
            rw [callR_par, k2 H3, h]
            rfl
          · exfalso
            unfold callCls at h
            split at h
            · simp at h
            · split at h <;> simp at h
      · simp at e
    | invoke r m =>
      intro c' H' v e
      simp [stepV, hc] at e
    | builtin b =>
      intro c' H' v e
      simp only [stepV, hc] at e
      have ln : ∀ (x : C) (H : List HS), (lenR (none : V3) ⟨tm, H⟩ x fun c v => mk3 c H v) = some (c', H', v) → (c' = .t → H' = H ∧ ∀ H3, (lenR (none : V3) ⟨tm, H3⟩ x fun c v => mk3 c H3 v) = some (.t, H3, v)) ∧ (c' = .r → H' = H) :=
        fun x H e => lenR_cls (tm := tm) (x := x) H c' H' v e
      split at e
      · rename_i x hx
        split at e
        · rename_i t hat
          split at e
          · rename_i ti ht
            split at e
            · rename_i l
              obtain ⟨k1, k2⟩ := ln _ H e
              exact ⟨fun h => ⟨(k1 h).1, fun H3 => by simp only [stepV, hc, hx, hat, ht]; exact (k1 h).2 H3⟩, k2⟩
            · simp at e
          · rename_i ti ht
            split at e
            · simp at e
            · rename_i hno
              obtain ⟨k1, k2⟩ := ln _ H e
              refine ⟨fun h => ⟨(k1 h).1, fun H3 => ?_⟩, k2⟩
              simp only [stepV, hc, hx, hat, ht]
              exact (k1 h).2 H3
          · simp at e
        · simp at e
      · rename_i hx
        obtain ⟨rfl, rfl, rfl⟩ := cls_some e
        exact ⟨fun _ => ⟨rfl, fun H3 => by simp only [stepV, hc, hx]⟩, fun h => by simp at h⟩
      · rename_i hx
        obtain ⟨rfl, rfl, rfl⟩ := cls_some e
        exact ⟨fun _ => ⟨rfl, fun H3 => by simp only [stepV, hc, hx]⟩, fun h => by simp at h⟩
      · rename_i x y hx
        split at e
        · rw [appendR_par] at e
          cases hl : appendR ty none _ _ base ⟨tm, H⟩ x y fun H v => some (H, v) with
          | none => rw [hl] at e; simp [via] at e
          | some r =>
            rw [hl] at e
            obtain ⟨rfl, rfl, rfl⟩ := cls_some e
            exact ⟨fun h => by simp at h, fun h => by simp at h⟩
        · simp at e
      · simp at e
  | store t x y =>
    intro c' H' v e
    simp only [stepV] at e
    split at e
    · rw [storeR_par] at e
      cases hl : storeR ty none t ⟨tm, H⟩ (opd tm x) (opd tm y) some with
      | none => rw [hl] at e; simp [via] at e
      | some r =>
        rw [hl] at e
        obtain ⟨rfl, rfl, rfl⟩ := cls_some e
        have no : stCls (opd tm x) ≠ .t ∧ stCls (opd tm x) ≠ .r := by
          unfold stCls
          split <;> simp
        exact ⟨fun h => absurd h no.1, fun h => absurd h no.2⟩
    · simp at e
  | _ =>
    intro c' H' v e
    simp only [stepV] at e
    repeat' split at e
    all_goals first
      | (simp at e; done)
      | (obtain ⟨rfl, rfl, rfl⟩ := cls_some e
         refine ⟨fun h => ?_, fun h => ?_⟩
         · first
           | (simp at h; done)
           | (refine ⟨rfl, fun H3 => ?_⟩; simp_all [stepV])
         · first
           | (simp at h; done)
           | rfl)

end
end Go.Proofs.YtljggmbgbnmapaaGreatV
