/- What is read stays where a new variable is made; what makes a new variable looks at nothing else. -/
import Derived.Test.YtciandfkncadgaaV16
namespace Go.Proofs.YtciandfkncadgaaV
open Go
set_option linter.unusedVariables false
set_option linter.unusedSimpArgs false

section
variable {ty : Nat → Option TI} {fn : Nat → Option FI} {cl : Nat → Hint → List DC → Out}

theorem getH_set_self {H : List HS} {b : Nat} {x : HS} (h : getH H b = .free) : getH (setH H b x) b = x := by
  simp only [getH, setH, List.getD_eq_getElem?_getD] at h ⊢
  have : b < H.length := by
    rcases Nat.lt_or_ge b H.length with h' | h'
    · exact h'
    · rw [List.getElem?_eq_none h'] at h; simp at h
  rw [List.getElem?_set_self this]
  rfl

theorem getH_keep {H : List HS} {b id : Nat} {x : HS} {o : Obj'} (hf : getH H b = .free) (h : getH H id = .live o) : getH (setH H b x) id = .live o := by
  rw [getH_set_ne, h]
  intro hb
  subst hb
  rw [hf] at h
  simp at h

theorem sliceOf_keep {H : List HS} {b : Nat} {x : HS} {s : S} {r : Nat × List (List DC)} (hf : getH H b = .free) (h : sliceOf H s = some r) : sliceOf (setH H b x) s = some r := by
  unfold sliceOf at h ⊢
  split at h
  · exact h
  · rename_i id
    split at h
    · rename_i hl; rw [getH_keep hf hl]; exact h
    · rename_i hl; rw [getH_keep hf hl]; exact h
    · simp at h
  · simp at h

theorem loadR_r {t : Nat} {tm : List C} {a : C} {H H' : List HS} {b : Nat} {hs : HS} {v : C} (hf : getH H b = .free) (e : (loadR ty (none : V3) t ⟨tm, H⟩ a fun c v => mk3 c H v) = some (.r, H', v)) :
    (loadR ty (none : V3) t ⟨tm, setH H b hs⟩ a fun c v => mk3 c (setH H b hs) v) = some (.r, setH H b hs, v) := by
  have key : ∀ {id o}, getH H id = .live o → getH (setH H b hs) id = .live o := fun h => getH_keep hf h
  unfold loadR at e ⊢
  dsimp only at e ⊢
  repeat' split at e
  all_goals first
    | (simp at e; done)
    | (obtain ⟨h1, rfl, rfl⟩ := cls_some e; first | (simp at h1; done) | skip)
  all_goals rename_i hl _
  all_goals first
    | (have hl2 := key hl; simp_all)
    | simp_all

theorem convR_r {s t : Nat} {tm : List C} {x : C} {H H' : List HS} {b : Nat} {hs : HS} {v : C} (hf : getH H b = .free) (e : convR ty (none : V3) s t ⟨tm, H⟩ x mk3 = some (.r, H', v)) : convR ty (none : V3) s t ⟨tm, setH H b hs⟩ x mk3 = some (.r, setH H b hs, v) := by
  have key : ∀ {s r}, sliceOf H s = some r → sliceOf (setH H b hs) s = some r := fun h => sliceOf_keep hf h
  unfold convR at e ⊢
  dsimp only at e ⊢
  repeat' split at e
  all_goals first
    | (simp at e; done)
    | (obtain ⟨h1, rfl, rfl⟩ := cls_some e; first | (simp at h1; done) | skip)
  all_goals rename_i hl _
  all_goals
    have hl2 := key hl
    simp_all

theorem indexR_r {e0 : Nat} {tm : List C} {x i : C} {H H' : List HS} {b : Nat} {hs : HS} {v : C} (hf : getH H b = .free) (e : (indexR (none : V3) e0 ⟨tm, H⟩ x i fun c v => mk3 c H v) = some (.r, H', v)) :
    (indexR (none : V3) e0 ⟨tm, setH H b hs⟩ x i fun c v => mk3 c (setH H b hs) v) = some (.r, setH H b hs, v) := by
  have key : ∀ {id o}, getH H id = .live o → getH (setH H b hs) id = .live o := fun h => getH_keep hf h
  unfold indexR at e ⊢
  dsimp only at e ⊢
  repeat' split at e
  all_goals first
    | (simp at e; done)
    | (obtain ⟨h1, rfl, rfl⟩ := cls_some e; first | (simp at h1; done) | skip)
  all_goals rename_i hl _
  all_goals
    have hl2 := key hl
    simp_all

theorem lenR_r {tm : List C} {x : C} {H H' : List HS} {b : Nat} {hs : HS} {v : C} (hf : getH H b = .free) (e : (lenR (none : V3) ⟨tm, H⟩ x fun c v => mk3 c H v) = some (.r, H', v)) :
    (lenR (none : V3) ⟨tm, setH H b hs⟩ x fun c v => mk3 c (setH H b hs) v) = some (.r, setH H b hs, v) := by
  have key : ∀ {s r}, sliceOf H s = some r → sliceOf (setH H b hs) s = some r := fun h => sliceOf_keep hf h
  unfold lenR at e ⊢
  dsimp only at e ⊢
  repeat' split at e
  all_goals first
    | (simp at e; done)
    | (obtain ⟨h1, rfl, rfl⟩ := cls_some e; first | (simp at h1; done) | skip)
  all_goals rename_i hl
  all_goals
    have hl2 := key hl
    simp_all

theorem sliceR_r {t : Nat} {tm : List C} {x : C} {lo hi : Option C} {H H' : List HS} {b : Nat} {hs : HS} {v : C} (hf : getH H b = .free) (e : sliceR ty (none : V3) t ⟨tm, H⟩ x lo hi mk3 = some (.r, H', v)) : sliceR ty (none : V3) t ⟨tm, setH H b hs⟩ x lo hi mk3 = some (.r, setH H b hs, v) := by
  simp only [sliceR] at e ⊢
  split at e
  · rename_i ti ht
    split at e
    · rename_i l hk
      obtain ⟨l', h1, h2⟩ := cutR_some2 e
      obtain ⟨h3, rfl, rfl⟩ := cls_some h2
      simp at h3
    · rename_i el el' l hk
      split at e
      · obtain ⟨l', h1, h2⟩ := cutR_some2 e
        obtain ⟨h3, rfl, rfl⟩ := cls_some h2
        simp at h3
      · simp at e
    · rename_i el id hk
      split at e
      · split at e
        · obtain ⟨l', h1, h2⟩ := cutR_some2 e
          obtain ⟨h3, rfl, rfl⟩ := cls_some h2
          simp at h3
        · simp at e
      · rename_i hl
        split at e
        · rename_i hc
          obtain ⟨l', h1, h2⟩ := cutR_some2 e
          obtain ⟨_, rfl, rfl⟩ := cls_some h2
          rw [getH_keep hf hl]
          dsimp only
          rw [if_pos hc]
          exact cutR_of h1
        · simp at e
      · simp at e
    · simp at e
  · simp at e

theorem toDC_indep {H H' H3 : List HS} {t : CT} {s : S} {d : DC} (hs : s.noOwn = true) (e : toDC H t s = some (d, H')) : toDC H3 t s = some (d, H3) := by
  unfold toDC at e ⊢
  split at e
  all_goals first
    | (simp at e; done)
    | (simp only [Option.some.injEq, Prod.mk.injEq] at e; obtain ⟨rfl, _⟩ := e; rfl)
    | (split at e
       · rename_i hc; simp only [Option.some.injEq, Prod.mk.injEq] at e; obtain ⟨rfl, _⟩ := e; simp [hc]
       · simp at e)
    | (simp [S.noOwn] at hs)

theorem normK1_indep {H H' H3 : List HS} {k : K1} {s : S} {d : List DC} (hs : s.noOwn = true) (e : normK1 ty H k s = some (d, H')) : normK1 ty H3 k s = some (d, H3) := by
  unfold normK1 at e ⊢
  split at e
  case h_5 =>
    split at e
    · rename_i hd
      simp only [Option.some.injEq, Prod.mk.injEq] at e
      obtain ⟨rfl, _⟩ := e
      rw [toDC_indep hs hd]
    · simp at e
  case h_6 => simp [S.noOwn] at hs
  case h_7 =>
    split at e
    · rename_i hte
      split at e
      · rename_i hc
        simp only [Option.some.injEq, Prod.mk.injEq] at e
        obtain ⟨rfl, _⟩ := e
        simp only [hte, hc, if_true]
      · simp at e
    · simp at e
  all_goals first
    | (simp at e; done)
    | (simp only [Option.some.injEq, Prod.mk.injEq] at e; obtain ⟨rfl, _⟩ := e; rfl)
    | (split at e
       · rename_i hc; simp only [Option.some.injEq, Prod.mk.injEq] at e; obtain ⟨rfl, _⟩ := e; simp [hc]
       · simp at e)

theorem normL_indep : ∀ {ks : List K1} {ss : List S} {H H' : List HS} {d : List DC} (H3 : List HS), ss.all S.noOwn = true → normL ty H ks ss = some (d, H') → normL ty H3 ks ss = some (d, H3)
  | [], [], H, H', d, H3, _, e => by
    simp only [normL, Option.some.injEq, Prod.mk.injEq] at e
    rw [← e.1]
    rfl
  | k :: ks, s :: ss, H, H', d, H3, hs, e => by
    simp only [List.all_cons, Bool.and_eq_true] at hs
    simp only [normL] at e ⊢
    split at e
    · rename_i d1 H1 h1
      split at e
      · rename_i d2 H2 h2
        simp only [Option.some.injEq, Prod.mk.injEq] at e
        obtain ⟨rfl, _⟩ := e
        rw [normK1_indep (H3 := H3) hs.1 h1]
        dsimp only
        rw [normL_indep H3 hs.2 h2]
      · simp at e
    · simp at e
  | [], _ :: _, _, _, _, _, _, e => by simp [normL] at e
  | _ :: _, [], _, _, _, _, _, e => by simp [normL] at e

theorem putRows_ct2 (v : List DC) : ∀ {L : List RK} {i n : Nat} {H : List HS}, L.all RK.isCt = true → putRows v n (rkK i L) H = some H
  | [], i, n, H, _ => by simp only [rkK, putRows]
  | r :: L, i, n, H, h => by
    simp only [List.all_cons, Bool.and_eq_true] at h
    cases r with
    | ct c => cases c <;> (show putRows v (n + 1) (rkK i L) H = some H; exact putRows_ct2 v h.2)
    | new el => simp [RK.isCt] at h

theorem callR_r {base f : Nat} {tm : List C} {H H' H3 : List HS} {caps : List Nat} {args : List C} {v : C} (hc : callCls fn f caps args = .r) (e : callR ty fn cl none base ⟨tm, H⟩ f caps args (fun H v => some (H, v)) = some (H', v)) (hcaps : caps.all (isVarB H) = true → caps.all (isVarB H3) = true) :
    callR ty fn cl none base ⟨tm, H3⟩ f caps args (fun H v => some (H, v)) = some (H3, v) := by
  unfold callCls at hc
  unfold callR at e ⊢
  cases hf : fn f with
  | none => rw [hf] at hc; simp at hc
  | some fi =>
    rw [hf] at hc e
    dsimp only at hc e ⊢
    split at hc
    · rename_i h1 h2 h3
      rw [h1] at e ⊢
      split at e
      · rename_i kcs kos e1 e2
        simp only [objK, Option.some.injEq] at e2
        subst e2
        have e1' := e1
        simp only [List.length_nil] at e1'
        simp only [objK, List.length_nil, e1']
        split at e
        · rename_i p q e3 e4
          simp only [srcV, Option.some.injEq] at e4
          subst e4
          simp only [srcV, e3]
          split at e
          · rename_i v0 H1 e5
            have hno := normL_noOwn (by rw [List.append_nil]; exact srcT_noOwn h2 e3) e5
            have e6 := normL_indep H3 (by rw [List.append_nil]; exact srcT_noOwn h2 e3) e5
            rw [e6]
            dsimp only
            have hrk : (fi.rk.flatMap Prod.snd).all RK.isCt = true := by
              rw [List.all_flatMap]
              exact h3
            split at e
            · rename_i hok
              have hok2 : (nodupB [] && (caps.all (isVarB H3)) && ({ tm := kcs, ob := [] ++ List.replicate (fi.pk.filter PK.isMv).length .u } : Hint).ok) = true := by
                simp only [Bool.and_eq_true] at hok ⊢
                exact ⟨⟨hok.1.1, hcaps hok.1.2⟩, hok.2⟩
              rw [if_pos hok2]
              split at e
              · rename_i r hr
                have pr : ∀ HH, putRows r 0 (rkAll base fi.rk) HH = some HH := fun HH => putRows_ct2 r hrk
                have pv : ∀ m HH, putVars r m [] [] HH = HH := fun m HH => by rw [putVars]; intro _ _ _ _ _ h; simp at h
                split at e
                · rw [pr] at e ⊢
                  simp only [Option.some.injEq, Prod.mk.injEq] at e ⊢
                  exact ⟨trivial, e.2⟩
                · rw [pv] at e ⊢
                  rw [pr] at e ⊢
                  simp only [Option.some.injEq, Prod.mk.injEq] at e ⊢
                  exact ⟨trivial, e.2⟩
              · simp at e
            · simp at e
          · simp at e
        · simp at e
      · simp at e
    · simp at hc

theorem isVarB_keep {H : List HS} {b : Nat} {x : HS} (hf : getH H b = .free) {caps : List Nat} (h : caps.all (isVarB H) = true) : caps.all (isVarB (setH H b x)) = true := by
  rw [List.all_eq_true] at h ⊢
  intro id hid
  have := h id hid
  unfold isVarB at this ⊢
  split at this
  · rename_i hl; rw [getH_keep hf hl]
  · simp at this

/-- What is read stays where a new variable is made. -/
theorem stepV_r {base b : Nat} {o : Oper} {tm : List C} {H H' : List HS} {hs : HS} {v : C} (hf : getH H b = .free) (e : stepV ty fn cl (none : V3) base o tm H mk3 = some (.r, H', v)) : stepV ty fn cl (none : V3) base o tm (setH H b hs) mk3 = some (.r, setH H b hs, v) := by
  have key : ∀ {id o}, getH H id = .live o → getH (setH H b hs) id = .live o := fun h => getH_keep hf h
  obtain ⟨dst, op, type, pos, after, guard⟩ := o
  cases op with
  | move x => simp [stepV] at e
  | assign x => simp [stepV] at e
  | load t x => exact loadR_r hf e
  | convert s t x => exact convR_r hf e
  | slice t x lo hi mx =>
    cases mx with
    | none => exact sliceR_r hf e
    | some m => simp [stepV] at e
  | indexAddr t x i =>
    simp only [stepV] at e ⊢
    split at e
    · exact indexR_r hf e
    · simp at e
  | binOp op t x y t' =>
    simp only [stepV] at e
    rw [binR_par] at e
    cases hl : binR ty none op t (opd tm x) (opd tm y) some with
    | none => rw [hl] at e; simp [via] at e
    | some r => rw [hl] at e; simp [via] at e
  | call c =>
    cases hc : c.callee with
    | value f =>
      simp only [stepV, hc] at e ⊢
      split at e
      · rename_i f' caps hfn
        rw [callR_par] at e ⊢
        cases hl : callR ty fn cl none base ⟨tm, H⟩ f' caps (opds tm c.args.toList) fun H v => some (H, v) with
        | none => rw [hl] at e; simp [via] at e
        | some r =>
          rw [hl] at e
          obtain ⟨hcl, rfl, rfl⟩ := cls_some e
          rw [callR_r hcl hl (isVarB_keep hf)]
          simp only [via, hcl]
      · simp at e
    | invoke r m => simp [stepV, hc] at e
    | builtin bn =>
      simp only [stepV, hc] at e ⊢
      split at e
      · rename_i x hx
        split at e
        · rename_i t hat
          split at e
          · rename_i ti ht
            split at e
            · exact lenR_r hf e
            · simp at e
          · rename_i ti ht
            split at e
            · simp at e
            · exact lenR_r hf e
          · simp at e
        · simp at e
      · simp at e
      · simp at e
      · split at e
        · rw [appendR_par] at e
          cases hl : appendR ty none _ _ base ⟨tm, H⟩ _ _ fun H v => some (H, v) with
          | none => rw [hl] at e; simp [via] at e
          | some r => rw [hl] at e; simp [via] at e
        · simp at e
      · simp at e
  | nilCheck x =>
    simp only [stepV] at e ⊢
    repeat' split at e
    all_goals first
      | (simp at e; done)
      | (obtain ⟨h1, rfl, rfl⟩ := cls_some e; first | (simp at h1; done) | skip)
    rename_i hl
    have hl2 := key hl
    simp_all
  | fieldAddr t x j =>
    simp only [stepV] at e ⊢
    repeat' split at e
    all_goals first
      | (simp at e; done)
      | (obtain ⟨h1, rfl, rfl⟩ := cls_some e; first | (simp at h1; done) | skip)
    all_goals
      rename_i hl
      have hl2 := key hl
      simp_all
  | store t a x =>
    simp only [stepV] at e
    split at e
    · rw [storeR_par] at e
      cases hl : storeR ty none t ⟨tm, H⟩ (opd tm a) (opd tm x) some with
      | none => rw [hl] at e; simp [via] at e
      | some r => rw [hl] at e; simp [via] at e
    · simp at e
  | _ =>
    simp only [stepV] at e
    repeat' split at e
    all_goals simp at e

/-- What makes a new variable. -/
theorem stepV_n {base : Nat} {o : Oper} {tm : List C} {H H' : List HS} {v : C} (e : stepV ty fn cl (none : V3) base o tm H mk3 = some (.n, H', v)) :
    getH H base = .free ∧ ∃ ob, H' = setH H base (.live ob) ∧ ∀ H3, getH H3 base = .free → stepV ty fn cl (none : V3) base o tm H3 mk3 = some (.n, setH H3 base (.live ob), v) := by
  obtain ⟨dst, op, type, pos, after, guard⟩ := o
  cases op with
  | alloc t =>
    simp only [stepV] at e ⊢
    split at e
    · rename_i ti ht hb
      obtain ⟨_, rfl, rfl⟩ := cls_some e
      exact ⟨hb, _, rfl, fun H3 h3 => by simp only [ht, h3]⟩
    · simp at e
  | box t x =>
    simp only [stepV] at e ⊢
    split at e
    · rename_i ti ss ht hx hb
      split at e
      · rename_i hl
        obtain ⟨_, rfl, rfl⟩ := cls_some e
        exact ⟨hb, _, rfl, fun H3 h3 => by simp only [ht, hx, h3, hl, if_true]⟩
      · simp at e
    · simp at e
  | load t x =>
    simp only [stepV] at e
    unfold loadR at e
    dsimp only at e
    repeat' split at e
    all_goals simp at e
  | convert s t x =>
    simp only [stepV] at e
    unfold convR at e
    dsimp only at e
    repeat' split at e
    all_goals simp at e
  | slice t x lo hi mx =>
    cases mx with
    | none =>
      simp only [stepV, sliceR] at e
      repeat' split at e
      all_goals first
        | (simp at e; done)
        | (obtain ⟨l', h1, h2⟩ := cutR_some2 e; obtain ⟨h3, _⟩ := cls_some h2; simp at h3)
    | some m => simp [stepV] at e
  | indexAddr t x i =>
    simp only [stepV] at e
    unfold indexR at e
    dsimp only at e
    repeat' split at e
    all_goals simp at e
  | binOp op t x y t' =>
    simp only [stepV] at e
    rw [binR_par] at e
    cases hl : binR ty none op t (opd tm x) (opd tm y) some with
    | none => rw [hl] at e; simp [via] at e
    | some r => rw [hl] at e; simp [via] at e
  | store t a x =>
    simp only [stepV] at e
    split at e
    · rw [storeR_par] at e
      cases hl : storeR ty none t ⟨tm, H⟩ (opd tm a) (opd tm x) some with
      | none => rw [hl] at e; simp [via] at e
      | some r => rw [hl] at e; simp [via] at e
    · simp at e
  | call c =>
    cases hc : c.callee with
    | value f =>
      simp only [stepV, hc] at e
      split at e
      · rename_i f' caps hfn
        rw [callR_par] at e
        cases hl : callR ty fn cl none base ⟨tm, H⟩ f' caps (opds tm c.args.toList) fun H v => some (H, v) with
        | none => rw [hl] at e; simp [via] at e
        | some r =>
          rw [hl] at e
          obtain ⟨hcl, rfl, rfl⟩ := cls_some e
          exfalso
          unfold callCls at hcl
          split at hcl
          · simp at hcl
          · split at hcl <;> simp at hcl
      · simp at e
    | invoke r m => simp [stepV, hc] at e
    | builtin bn =>
      simp only [stepV, hc] at e
      have ln : ∀ (x : C), (lenR (none : V3) ⟨tm, H⟩ x fun c v => mk3 c H v) = some (.n, H', v) → False := by
        intro x e
        unfold lenR at e
        dsimp only at e
        repeat' split at e
        all_goals simp at e
      split at e
      · exfalso
        split at e
        · split at e
          · split at e
            · exact ln _ e
            · simp at e
          · split at e
            · simp at e
            · exact ln _ e
          · simp at e
        · simp at e
      · simp at e
      · simp at e
      · split at e
        · rw [appendR_par] at e
          cases hl : appendR ty none _ _ base ⟨tm, H⟩ _ _ fun H v => some (H, v) with
          | none => rw [hl] at e; simp [via] at e
          | some r => rw [hl] at e; simp [via] at e
        · simp at e
      · simp at e
  | _ =>
    simp only [stepV] at e
    repeat' split at e
    all_goals simp at e

end
end Go.Proofs.YtciandfkncadgaaV
