import Derived.Test.YthbcjkppdjpihaaGreatDoorMA3
/- What is read stays where a new variable is made; what makes a new variable looks at nothing else. -/
namespace Go.Proofs.QV
open Go
set_option linter.unusedVariables false
set_option linter.unusedSimpArgs false
section
variable {ty : Nat → Option TI} {fn : Nat → Option FI} {cl : Nat → Hint → List DC → Out}
theorem getH_set_self {H : List HS} {b : Nat} {x : HS} (h : getH H b = .free) : getH (setH H b x) b = x := by
  simp only [getH, setH, List.getD_eq_getElem?_getD] at h ⊢
  have : b < H.length := by
    rcases Nat.lt_or_ge b H.length with h' | h'
    · exact h'
    · rw [List.getElem?_eq_none h'] at h; simp at h
  rw [List.getElem?_set_self this]
  rfl
theorem getH_keep {H : List HS} {b id : Nat} {x : HS} {o : Obj'} (hf : getH H b = .free) (h : getH H id = .live o) : getH (setH H b x) id = .live o := by
  rw [getH_set_ne, h]
  intro hb
  subst hb
  rw [hf] at h
  simp at h
theorem sliceOf_keep {H : List HS} {b : Nat} {x : HS} {s : S} {r : Nat × List (List DC)} (hf : getH H b = .free) (h : sliceOf H s = some r) : sliceOf (setH H b x) s = some r := by
  unfold sliceOf at h ⊢
  split at h
  · exact h
  · rename_i id
    split at h
    · rename_i hl; rw [getH_keep hf hl]; exact h
    · rename_i hl; rw [getH_keep hf hl]; exact h
    · simp at h
  · simp at h
theorem convR_r {s t : Nat} {tm : List C} {x : C} {H H' : List HS} {b : Nat} {hs : HS} {v : C} (hf : getH H b = .free) (e : convR ty (none : V3) s t ⟨tm, H⟩ x mk3 = some (.r, H', v)) : convR ty (none : V3) s t ⟨tm, setH H b hs⟩ x mk3 = some (.r, setH H b hs, v) := by
  have key : ∀ {s r}, sliceOf H s = some r → sliceOf (setH H b hs) s = some r := fun h => sliceOf_keep hf h
  unfold convR at e ⊢
  dsimp only at e ⊢
  repeat' split at e
  all_goals first
    | (simp at e; done)
    | (obtain ⟨h1, rfl, rfl⟩ := cls_some e; first | (simp at h1; done) | skip)
  all_goals rename_i hl _
  all_goals
    have hl2 := key hl
    simp_all
theorem stepV_r {base b : Nat} {o : Oper} {tm : List C} {H H' : List HS} {hs : HS} {v : C} (hf : getH H b = .free) (e : stepV ty fn cl (none : V3) base o tm H mk3 = some (.r, H', v)) : stepV ty fn cl (none : V3) base o tm (setH H b hs) mk3 = some (.r, setH H b hs, v) := by
  obtain ⟨dst, op, type, pos, after, guard⟩ := o
  cases op with
  | convert s t x => exact convR_r hf e
  | load t x =>
    simp only [stepV] at e
    unfold takeR loadR at e
    dsimp only at e
    repeat' split at e
    all_goals simp at e
  | slice t x lo hi mx =>
    cases mx with
    | none =>
      simp only [stepV, sliceR] at e
      repeat' split at e
      all_goals first
        | (simp at e; done)
        | (obtain ⟨l', h1, h2⟩ := cutR_some2 e; obtain ⟨h3, _⟩ := cls_some h2; simp at h3)
    | some m => simp [stepV] at e
  | indexAddr t x i =>
    simp only [stepV] at e
    unfold indexR at e
    dsimp only at e
    repeat' split at e
    all_goals simp at e
  | binOp op t x y t' =>
    simp only [stepV] at e
    rw [binR_par] at e
    cases hl : binR ty none op t (opd tm x) (opd tm y) some with
    | none => rw [hl] at e; simp [via] at e
    | some r => rw [hl] at e; simp [via] at e
  | store t a x =>
    simp only [stepV] at e
    split at e
    · rw [storeR_par] at e
      cases hl : storeR ty none t ⟨tm, H⟩ (opd tm a) (opd tm x) some with
      | none => rw [hl] at e; simp [via] at e
      | some r =>
        rw [hl] at e
        obtain ⟨h, _⟩ := cls_some e
        unfold stCls at h
        split at h <;> simp at h
    · simp at e
  | call c =>
    cases hc : c.callee with
    | value f =>
      simp only [stepV, hc] at e
      split at e
      · rename_i f' caps hfn
        rw [callR_par] at e
        cases hl : callR ty fn cl none base ⟨tm, H⟩ f' caps (opds tm c.args.toList) fun H v => some (H, v) with
        | none => rw [hl] at e; simp [via] at e
        | some r =>
          rw [hl] at e
          obtain ⟨hcl, rfl, rfl⟩ := cls_some e
          exfalso
          unfold callCls at hcl
          repeat' split at hcl
          all_goals simp at hcl
      · simp at e
    | invoke r m => simp [stepV, hc] at e
    | builtin bn =>
      simp only [stepV, hc] at e
      have ln : ∀ (x : C), (lenR (none : V3) ⟨tm, H⟩ x fun c v => mk3 c H v) = some (.r, H', v) → False := by
        intro x e
        unfold lenR at e
        dsimp only at e
        repeat' split at e
        all_goals simp at e
      split at e
      · exfalso
        split at e
        · split at e
          · split at e
            · exact ln _ e
            · simp at e
          · split at e
            · simp at e
            · exact ln _ e
          · simp at e
        · simp at e
      · simp at e
      · simp at e
      · split at e
        · rw [appendR_par] at e
          cases hl : appendR ty none _ _ base ⟨tm, H⟩ _ _ fun H v => some (H, v) with
          | none => rw [hl] at e; simp [via] at e
          | some r => rw [hl] at e; simp [via] at e
        · simp at e
      · simp at e
  | _ =>
    simp only [stepV] at e
    repeat' split at e
    all_goals simp at e
theorem stepV_rv {base id : Nat} {o : Oper} {tm : List C} {H H' : List HS} {v : C} (e : stepV ty fn cl (none : V3) base o tm H mk3 = some (.rv id, H', v)) :
    H' = H ∧ (∃ ob, getH H id = .live ob) ∧ ∀ H3, getH H3 id = getH H id → stepV ty fn cl (none : V3) base o tm H3 mk3 = some (.rv id, H3, v) := by
  obtain ⟨dst, op, type, pos, after, guard⟩ := o
  cases op with
  | load t x =>
    simp only [stepV] at e ⊢
    cases hT : isTake ty t (opd tm x) with
    | true =>
      rw [hT] at e
      unfold takeR at e
      dsimp only at e
      repeat' split at e
      all_goals first
        | (simp at e; done)
        | (obtain ⟨h1, rfl, rfl⟩ := cls_some e; simp at h1; done)
    | false =>
    rw [hT] at e
    dsimp only at e ⊢
    unfold loadR at e ⊢
    dsimp only at e ⊢
    repeat' split at e
    all_goals first
      | (simp at e; done)
      | (obtain ⟨h1, rfl, rfl⟩ := cls_some e; first | (simp at h1; done) | skip)
    all_goals
      simp only [Cls.rv.injEq] at h1
      subst h1
      refine ⟨rfl, ⟨_, by assumption⟩, fun H3 h3 => ?_⟩
      simp_all
  | indexAddr t x i =>
    simp only [stepV] at e ⊢
    unfold indexR at e ⊢
    dsimp only at e ⊢
    repeat' split at e
    all_goals first
      | (simp at e; done)
      | (obtain ⟨h1, rfl, rfl⟩ := cls_some e; first | (simp at h1; done) | skip)
    all_goals
      simp only [Cls.rv.injEq] at h1
      subst h1
      refine ⟨rfl, ⟨_, by assumption⟩, fun H3 h3 => ?_⟩
      simp_all
  | nilCheck x =>
    simp only [stepV] at e ⊢
    repeat' split at e
    all_goals first
      | (simp at e; done)
      | (obtain ⟨h1, rfl, rfl⟩ := cls_some e; first | (simp at h1; done) | skip)
    all_goals
      simp only [Cls.rv.injEq] at h1
      subst h1
      refine ⟨rfl, ⟨_, by assumption⟩, fun H3 h3 => ?_⟩
      simp_all
  | fieldAddr t x j =>
    simp only [stepV] at e ⊢
    repeat' split at e
    all_goals first
      | (simp at e; done)
      | (obtain ⟨h1, rfl, rfl⟩ := cls_some e; first | (simp at h1; done) | skip)
    all_goals
      simp only [Cls.rv.injEq] at h1
      subst h1
      refine ⟨rfl, ⟨_, by assumption⟩, fun H3 h3 => ?_⟩
      simp_all
  | slice t x lo hi mx =>
    cases mx with
    | some m => simp [stepV] at e
    | none =>
      simp only [stepV, sliceR] at e ⊢
      split at e
      · rename_i ti ht
        split at e
        · obtain ⟨l', h1, h2⟩ := cutR_some2 e
          obtain ⟨h3, _⟩ := cls_some h2
          simp at h3
        · split at e
          · obtain ⟨l', h1, h2⟩ := cutR_some2 e
            obtain ⟨h3, _⟩ := cls_some h2
            simp at h3
          · simp at e
        · split at e
          · split at e
            · obtain ⟨l', h1, h2⟩ := cutR_some2 e
              obtain ⟨h3, _⟩ := cls_some h2
              simp at h3
            · simp at e
          · rename_i hl
            split at e
            · rename_i hc
              obtain ⟨l', h1, h2⟩ := cutR_some2 e
              obtain ⟨h3, rfl, rfl⟩ := cls_some h2
              simp only [Cls.rv.injEq] at h3
              subst h3
              refine ⟨rfl, ⟨_, hl⟩, fun H3 h3 => ?_⟩
              rw [h3, hl]
              dsimp only
              rw [if_pos hc]
              exact cutR_of h1
            · simp at e
          · simp at e
        · simp at e
      · simp at e
  | convert s t x =>
    simp only [stepV] at e
    unfold convR at e
    dsimp only at e
    repeat' split at e
    all_goals simp at e
  | binOp op t x y t' =>
    simp only [stepV] at e
    rw [binR_par] at e
    cases hl : binR ty none op t (opd tm x) (opd tm y) some with
    | none => rw [hl] at e; simp [via] at e
    | some r => rw [hl] at e; simp [via] at e
  | store t a x =>
    simp only [stepV] at e
    split at e
    · rw [storeR_par] at e
      cases hl : storeR ty none t ⟨tm, H⟩ (opd tm a) (opd tm x) some with
      | none => rw [hl] at e; simp [via] at e
      | some r =>
        rw [hl] at e
        obtain ⟨h, _⟩ := cls_some e
        unfold stCls at h
        split at h <;> simp at h
    · simp at e
  | call c =>
    cases hc : c.callee with
    | value f =>
      simp only [stepV, hc] at e
      split at e
      · rename_i f' caps hfn
        rw [callR_par] at e
        cases hl : callR ty fn cl none base ⟨tm, H⟩ f' caps (opds tm c.args.toList) fun H v => some (H, v) with
        | none => rw [hl] at e; simp [via] at e
        | some r =>
          rw [hl] at e
          obtain ⟨hcl, rfl, rfl⟩ := cls_some e
          exfalso
          unfold callCls at hcl
          repeat' split at hcl
          all_goals simp at hcl
      · simp at e
    | invoke r m => simp [stepV, hc] at e
    | builtin bn =>
      simp only [stepV, hc] at e ⊢
      have ln : ∀ (x : C), (lenR (none : V3) ⟨tm, H⟩ x fun c v => mk3 c H v) = some (.rv id, H', v) → H' = H ∧ (∃ ob, getH H id = .live ob) ∧ ∀ H3, getH H3 id = getH H id → (lenR (none : V3) ⟨tm, H3⟩ x fun c v => mk3 c H3 v) = some (.rv id, H3, v) := by
        intro x e
        unfold lenR at e ⊢
        dsimp only at e ⊢
        split at e
        · simp at e
        · simp at e
        · simp at e
        · rename_i id'
          cases hg : getH H id' with
          | live ob =>
            rw [hg] at e
            cases ob with
            | var t cs => simp at e
            | row e2 l =>
              simp only [] at e
              obtain ⟨h1, rfl, rfl⟩ := cls_some e
              simp only [Cls.rv.injEq] at h1
              subst h1
              exact ⟨rfl, ⟨_, hg⟩, fun H3 h3 => by rw [h3, hg]⟩
            | fz e2 l =>
              simp only [] at e
              obtain ⟨h1, rfl, rfl⟩ := cls_some e
              simp only [Cls.rv.injEq] at h1
              subst h1
              exact ⟨rfl, ⟨_, hg⟩, fun H3 h3 => by rw [h3, hg]⟩
            | pt e2 l => simp at e
            | hl e2 l ix => simp at e
          | free => rw [hg] at e; simp at e
          | dead => rw [hg] at e; simp at e
        · simp at e
      split at e
      · split at e
        · split at e
          · split at e
            · exact ln _ e
            · simp at e
          · split at e
            · simp at e
            · exact ln _ e
          · simp at e
        · simp at e
      · simp at e
      · simp at e
      · split at e
        · rw [appendR_par] at e
          cases hl : appendR ty none _ _ base ⟨tm, H⟩ _ _ fun H v => some (H, v) with
          | none => rw [hl] at e; simp [via] at e
          | some r => rw [hl] at e; simp [via] at e
        · simp at e
      · simp at e
  | _ =>
    simp only [stepV] at e
    repeat' split at e
    all_goals simp at e
theorem stepV_st {base id : Nat} {o : Oper} {tm : List C} {H H' : List HS} {v : C} (e : stepV ty fn cl (none : V3) base o tm H mk3 = some (.st id, H', v)) :
    ∃ x, H' = setH H id x ∧ ∀ H3, getH H3 id = getH H id → stepV ty fn cl (none : V3) base o tm H3 mk3 = some (.st id, setH H3 id x, v) := by
  obtain ⟨dst, op, type, pos, after, guard⟩ := o
  cases op with
  | store t a x =>
    simp only [stepV] at e ⊢
    split at e
    · rw [storeR_par] at e
      cases hl : storeR ty none t ⟨tm, H⟩ (opd tm a) (opd tm x) some with
      | none => rw [hl] at e; simp [via] at e
      | some r =>
        rw [hl] at e
        obtain ⟨h, h2, h4⟩ := cls_some e
        unfold stCls at h
        split at h
        · rename_i id' off ha
          simp only [Cls.st.injEq] at h
          subst h
          rw [ha] at hl
          unfold storeR at hl
          split at hl
          · rename_i ti ss ht hx
            split at hl
            · rename_i hss
              dsimp only at hl
              split at hl
              · rename_i t' cs hg
                split at hl
                · rename_i hle
                  simp only [Option.some.injEq] at hl
                  refine ⟨_, by rw [← h2, ← hl], fun H3 h3 => ?_⟩
                  rw [ha]
                  unfold storeR
                  simp only [ht, hx]
                  rw [if_pos hss]
                  rw [h3, hg]
                  simp only [hle, if_true, ← h4]
                  rfl
                · simp at hl
              · simp at hl
            · simp at hl
          · simp at hl
        · simp at h
    · simp at e
  | load t x =>
    simp only [stepV] at e
    unfold takeR loadR at e
    dsimp only at e
    repeat' split at e
    all_goals simp at e
  | indexAddr t x i =>
    simp only [stepV] at e
    unfold indexR at e
    dsimp only at e
    repeat' split at e
    all_goals simp at e
  | slice t x lo hi mx =>
    cases mx with
    | none =>
      simp only [stepV, sliceR] at e
      repeat' split at e
      all_goals first
        | (simp at e; done)
        | (obtain ⟨l', h1, h2⟩ := cutR_some2 e; obtain ⟨h3, _⟩ := cls_some h2; simp at h3)
    | some m => simp [stepV] at e
  | convert s t x =>
    simp only [stepV] at e
    unfold convR at e
    dsimp only at e
    repeat' split at e
    all_goals simp at e
  | binOp op t x y t' =>
    simp only [stepV] at e
    rw [binR_par] at e
    cases hl : binR ty none op t (opd tm x) (opd tm y) some with
    | none => rw [hl] at e; simp [via] at e
    | some r => rw [hl] at e; simp [via] at e
  | call c =>
    cases hc : c.callee with
    | value f =>
      simp only [stepV, hc] at e
      split at e
      · rename_i f' caps hfn
        rw [callR_par] at e
        cases hl : callR ty fn cl none base ⟨tm, H⟩ f' caps (opds tm c.args.toList) fun H v => some (H, v) with
        | none => rw [hl] at e; simp [via] at e
        | some r =>
          rw [hl] at e
          obtain ⟨hcl, rfl, rfl⟩ := cls_some e
          exfalso
          unfold callCls at hcl
          repeat' split at hcl
          all_goals simp at hcl
      · simp at e
    | invoke r m => simp [stepV, hc] at e
    | builtin bn =>
      simp only [stepV, hc] at e
      have ln : ∀ (x : C), (lenR (none : V3) ⟨tm, H⟩ x fun c v => mk3 c H v) = some (.st id, H', v) → False := by
        intro x e
        unfold lenR at e
        dsimp only at e
        repeat' split at e
        all_goals simp at e
      split at e
      · exfalso
        split at e
        · split at e
          · split at e
            · exact ln _ e
            · simp at e
          · split at e
            · simp at e
            · exact ln _ e
          · simp at e
        · simp at e
      · simp at e
      · simp at e
      · split at e
        · rw [appendR_par] at e
          cases hl : appendR ty none _ _ base ⟨tm, H⟩ _ _ fun H v => some (H, v) with
          | none => rw [hl] at e; simp [via] at e
          | some r => rw [hl] at e; simp [via] at e
        · simp at e
      · simp at e
  | _ =>
    simp only [stepV] at e
    repeat' split at e
    all_goals simp at e
theorem stepV_n {base : Nat} {o : Oper} {tm : List C} {H H' : List HS} {v : C} (e : stepV ty fn cl (none : V3) base o tm H mk3 = some (.n, H', v)) :
    getH H base = .free ∧ ∃ ob, H' = setH H base (.live ob) ∧ ∀ H3, getH H3 base = .free → stepV ty fn cl (none : V3) base o tm H3 mk3 = some (.n, setH H3 base (.live ob), v) := by
  obtain ⟨dst, op, type, pos, after, guard⟩ := o
  cases op with
  | alloc t =>
    simp only [stepV] at e
    repeat' split at e
    all_goals simp at e
  | box t x =>
    simp only [stepV] at e
    repeat' split at e
    all_goals simp at e
  | load t x =>
    simp only [stepV] at e
    unfold takeR loadR at e
    dsimp only at e
    repeat' split at e
    all_goals simp at e
  | convert s t x =>
    simp only [stepV] at e
    unfold convR at e
    dsimp only at e
    repeat' split at e
    all_goals simp at e
  | slice t x lo hi mx =>
    cases mx with
    | none =>
      simp only [stepV, sliceR] at e
      repeat' split at e
      all_goals first
        | (simp at e; done)
        | (obtain ⟨l', h1, h2⟩ := cutR_some2 e; obtain ⟨h3, _⟩ := cls_some h2; simp at h3)
    | some m => simp [stepV] at e
  | indexAddr t x i =>
    simp only [stepV] at e
    unfold indexR at e
    dsimp only at e
    repeat' split at e
    all_goals simp at e
  | binOp op t x y t' =>
    simp only [stepV] at e
    rw [binR_par] at e
    cases hl : binR ty none op t (opd tm x) (opd tm y) some with
    | none => rw [hl] at e; simp [via] at e
    | some r => rw [hl] at e; simp [via] at e
  | store t a x =>
    simp only [stepV] at e
    split at e
    · rw [storeR_par] at e
      cases hl : storeR ty none t ⟨tm, H⟩ (opd tm a) (opd tm x) some with
      | none => rw [hl] at e; simp [via] at e
      | some r =>
        rw [hl] at e
        obtain ⟨h, _⟩ := cls_some e
        unfold stCls at h
        split at h <;> simp at h
    · simp at e
  | call c =>
    cases hc : c.callee with
    | value f =>
      simp only [stepV, hc] at e
      split at e
      · rename_i f' caps hfn
        rw [callR_par] at e
        cases hl : callR ty fn cl none base ⟨tm, H⟩ f' caps (opds tm c.args.toList) fun H v => some (H, v) with
        | none => rw [hl] at e; simp [via] at e
        | some r =>
          rw [hl] at e
          obtain ⟨hcl, rfl, rfl⟩ := cls_some e
          exfalso
          unfold callCls at hcl
          repeat' split at hcl
          all_goals simp at hcl
      · simp at e
    | invoke r m => simp [stepV, hc] at e
    | builtin bn =>
      simp only [stepV, hc] at e
      have ln : ∀ (x : C), (lenR (none : V3) ⟨tm, H⟩ x fun c v => mk3 c H v) = some (.n, H', v) → False := by
        intro x e
        unfold lenR at e
        dsimp only at e
        repeat' split at e
        all_goals simp at e
      split at e
      · exfalso
        split at e
        · split at e
          · split at e
            · exact ln _ e
            · simp at e
          · split at e
            · simp at e
            · exact ln _ e
          · simp at e
        · simp at e
      · simp at e
      · simp at e
      · split at e
        · rw [appendR_par] at e
          cases hl : appendR ty none _ _ base ⟨tm, H⟩ _ _ fun H v => some (H, v) with
          | none => rw [hl] at e; simp [via] at e
          | some r => rw [hl] at e; simp [via] at e
        · simp at e
      · simp at e
  | _ =>
    simp only [stepV] at e
    repeat' split at e
    all_goals simp at e
theorem toDC_chg {H H' : List HS} {t : CT} {s : S} {d : DC} {j : Nat} (hj : j ∉ s.touch) (e : toDC H t s = some (d, H')) : getH H' j = getH H j := by
  unfold toDC at e
  repeat' split at e
  all_goals first
    | (simp at e; done)
    | (simp only [Option.some.injEq, Prod.mk.injEq] at e; obtain ⟨_, rfl⟩ := e; rfl)
    | (simp only [Option.some.injEq, Prod.mk.injEq] at e
       obtain ⟨_, rfl⟩ := e
       exact getH_set_ne _ fun h => hj (by simp [S.touch, h]))
theorem toDCs_chg : ∀ {ts : List CT} {ss : List S} {H H' : List HS} {d : List DC} {j : Nat}, j ∉ ss.flatMap S.touch → toDCs H ts ss = some (d, H') → getH H' j = getH H j
  | [], [], H, H', d, j, _, e => by
    simp only [toDCs, Option.some.injEq, Prod.mk.injEq] at e
    obtain ⟨_, rfl⟩ := e
    rfl
  | t :: ts, s :: ss, H, H', d, j, hj, e => by
    rw [List.flatMap_cons, List.mem_append, not_or] at hj
    rw [toDCs] at e
    split at e
    · rename_i h1
      split at e
      · rename_i h2
        simp only [Option.some.injEq, Prod.mk.injEq] at e
        obtain ⟨_, rfl⟩ := e
        rw [toDCs_chg hj.2 h2, toDC_chg hj.1 h1]
      · simp at e
    · simp at e
  | [], _ :: _, _, _, _, _, _, e => by simp [toDCs] at e
  | _ :: _, [], _, _, _, _, _, e => by simp [toDCs] at e
theorem mvDC_chg {H H' : List HS} {t : CT} {s : S} {d : DC} {j : Nat} (hj : j ∉ s.touch) (e : mvDC ty H t s = some (d, H')) : getH H' j = getH H j := by
  unfold mvDC at e
  repeat' split at e
  all_goals first
    | (simp at e; done)
    | (simp only [Option.some.injEq, Prod.mk.injEq] at e; obtain ⟨_, rfl⟩ := e; rfl)
    | (simp only [Option.some.injEq, Prod.mk.injEq] at e
       obtain ⟨_, rfl⟩ := e
       exact getH_set_ne _ fun h => hj (by simp [S.touch, h]))
theorem mvDCs_chg : ∀ {ts : List CT} {ss : List S} {H H' : List HS} {d : List DC} {j : Nat}, j ∉ ss.flatMap S.touch → mvDCs ty H ts ss = some (d, H') → getH H' j = getH H j
  | [], [], H, H', d, j, _, e => by
    simp only [mvDCs, Option.some.injEq, Prod.mk.injEq] at e
    obtain ⟨_, rfl⟩ := e
    rfl
  | t :: ts, s :: ss, H, H', d, j, hj, e => by
    rw [List.flatMap_cons, List.mem_append, not_or] at hj
    rw [mvDCs] at e
    split at e
    · rename_i h1
      split at e
      · rename_i h2
        simp only [Option.some.injEq, Prod.mk.injEq] at e
        obtain ⟨_, rfl⟩ := e
        rw [mvDCs_chg hj.2 h2, mvDC_chg hj.1 h1]
      · simp at e
    · simp at e
  | [], _ :: _, _, _, _, _, _, e => by simp [mvDCs] at e
  | _ :: _, [], _, _, _, _, _, e => by simp [mvDCs] at e
theorem putDCs_chg {d0' : Bool} {ts : List CT} {ss : List S} {H H' : List HS} {d : List DC} {j : Nat} (hj : j ∉ ss.flatMap S.touch) (e : putDCs ty d0' H ts ss = some (d, H')) : getH H' j = getH H j := by
  cases d0' with
  | false => exact toDCs_chg hj e
  | true => exact mvDCs_chg hj e
theorem cells_touch {c : C} {ss : List S} (h : c.cells = some ss) : ss.flatMap S.touch = c.touch := by
  unfold C.cells at h
  split at h
  · split at h
    · simp only [Option.some.injEq] at h; subst h; simp [C.touch]
    · simp at h
  · split at h
    · simp only [Option.some.injEq] at h; subst h; rfl
    · simp at h
  · simp at h
theorem rowsOf_chg {dd : Bool} {ts : List CT} : ∀ {l : List (Nat × C)} {n : Nat} {H H' : List HS} {d : List (List DC)} {j : Nat}, j ∉ l.flatMap (fun p => p.2.touch) → rowsOf ty dd H ts n l = some (d, H') → getH H' j = getH H j
  | [], n, H, H', d, j, _, e => by
    simp only [rowsOf, Option.some.injEq, Prod.mk.injEq] at e
    obtain ⟨_, rfl⟩ := e
    rfl
  | (i, c) :: l, n, H, H', d, j, hj, e => by
    rw [List.flatMap_cons, List.mem_append, not_or] at hj
    rw [rowsOf] at e
    split at e
    · split at e
      · rename_i ss hc
        split at e
        · rename_i h1
          split at e
          · rename_i h2
            simp only [Option.some.injEq, Prod.mk.injEq] at e
            obtain ⟨_, rfl⟩ := e
            rw [rowsOf_chg hj.2 h2, putDCs_chg (by rw [cells_touch hc]; exact hj.1) h1]
          · simp at e
        · simp at e
      · simp at e
    · simp at e
theorem normK1_chg {H H' : List HS} {k : K1} {s : S} {d : List DC} {j : Nat} (hj : j ∉ s.touch) (e : normK1 ty H k s = some (d, H')) : getH H' j = getH H j := by
  unfold normK1 at e
  repeat' split at e
  all_goals first
    | (simp at e; done)
    | (simp only [Option.some.injEq, Prod.mk.injEq] at e; obtain ⟨_, rfl⟩ := e; rfl)
    | (rename_i h1; simp only [Option.some.injEq, Prod.mk.injEq] at e; obtain ⟨_, rfl⟩ := e; exact toDC_chg hj h1)
    | (simp only [Option.some.injEq, Prod.mk.injEq] at e
       obtain ⟨_, rfl⟩ := e
       exact getH_set_ne _ fun h => hj (by simp [S.touch, h]))
theorem normL_chg : ∀ {ks : List K1} {ss : List S} {H H' : List HS} {d : List DC} {j : Nat}, j ∉ ss.flatMap S.touch → normL ty H ks ss = some (d, H') → getH H' j = getH H j
  | [], [], H, H', d, j, _, e => by
    simp only [normL, Option.some.injEq, Prod.mk.injEq] at e
    obtain ⟨_, rfl⟩ := e
    rfl
  | k :: ks, s :: ss, H, H', d, j, hj, e => by
    rw [List.flatMap_cons, List.mem_append, not_or] at hj
    rw [normL] at e
    split at e
    · rename_i h1
      split at e
      · rename_i h2
        simp only [Option.some.injEq, Prod.mk.injEq] at e
        obtain ⟨_, rfl⟩ := e
        rw [normL_chg hj.2 h2, normK1_chg hj.1 h1]
      · simp at e
    · simp at e
  | [], _ :: _, _, _, _, _, _, e => by simp [normL] at e
  | _ :: _, [], _, _, _, _, _, e => by simp [normL] at e
theorem srcT_touch : ∀ {ks : List KC} {cs : List C} {p : List S} {j : Nat}, j ∉ cs.flatMap C.touch → srcT ks cs = some p → j ∉ p.flatMap S.touch
  | ks, cs, p, j, hj, e => by
    induction cs generalizing ks p with
    | nil =>
      unfold srcT at e
      split at e
      all_goals first
        | (simp at e; done)
        | (simp only [Option.some.injEq] at e; subst e; simp)
        | (rename_i h; simp at h; done)
        | skip
      all_goals simp_all
    | cons c cs ih =>
      rw [List.flatMap_cons, List.mem_append, not_or] at hj
      unfold srcT at e
      split at e
      · rename_i h; simp at h
      · rename_i h
        obtain ⟨rfl, rfl⟩ := h
        split at e
        · rename_i r hr
          simp only [Option.some.injEq] at e
          subst e
          have := ih _ _ hj.2 hr
          simpa [S.touch] using this
        · simp at e
      · rename_i h
        obtain ⟨rfl, rfl⟩ := h
        split at e
        · rename_i r hr
          simp only [Option.some.injEq] at e
          subst e
          rw [List.flatMap_cons, List.mem_append, not_or]
          exact ⟨hj.1, ih _ _ hj.2 hr⟩
        · simp at e
      · rename_i h
        obtain ⟨rfl, rfl⟩ := h
        split at e
        · split at e
          · rename_i r hr
            simp only [Option.some.injEq] at e
            subst e
            rw [List.flatMap_append, List.mem_append, not_or]
            exact ⟨hj.1, ih _ _ hj.2 hr⟩
          · simp at e
        · simp at e
      · simp at e
theorem putRows_chg (v : List DC) : ∀ {ks : List K1} {n : Nat} {H H' : List HS} {j : Nat}, j ∉ ks.flatMap K1.ids → putRows v n ks H = some H' → getH H' j = getH H j
  | [], n, H, H', j, _, e => by
    simp only [putRows, Option.some.injEq] at e
    rw [e]
  | k :: ks, n, H, H', j, hj, e => by
    rw [List.flatMap_cons, List.mem_append, not_or] at hj
    cases k with
    | own e0 id =>
      rw [putRows] at e
      split at e
      · rw [putRows_chg v hj.2 e]
        exact getH_set_ne _ fun h => hj.1 (by simp [K1.ids, h])
      · simp at e
    | _ => exact putRows_chg v hj.2 e
theorem setH_comm {H : List HS} {i j : Nat} {x y : HS} (h : i ≠ j) : setH (setH H i x) j y = setH (setH H j y) i x := by
  simp only [setH]
  rw [List.set_comm _ _ h]
theorem srcV_no : ∀ {ids : List Nat} {kos : List KO} {q : List S} {H : List HS}, varsNo H ids = true → srcV H ids kos = some q → q.flatMap S.touch = []
  | [], [], q, H, _, e => by
    simp only [srcV, Option.some.injEq] at e
    subst e
    rfl
  | id :: ids, .var t l :: ks, q, H, h, e => by
    unfold varsNo at h
    rw [List.all_cons, Bool.and_eq_true] at h
    simp only [srcV] at e
    split at e
    · rename_i t' cs hv
      split at e
      · split at e
        · rename_i r hr
          simp only [Option.some.injEq] at e
          subst e
          rw [List.flatMap_append, srcV_no (ids := ids) h.2 hr, List.append_nil]
          have h1 := h.1
          rw [hv] at h1
          dsimp only at h1
          rw [List.all_eq_true] at h1
          rw [List.flatMap_eq_nil_iff]
          intro s hs
          have := h1 s hs
          cases s <;> first | rfl | simp [S.noOwn] at this
        · simp at e
      · simp at e
    · simp at e
  | _ :: _, .u :: _, _, _, _, e => by simp [srcV] at e
  | [], _ :: _, _, _, _, e => by simp [srcV] at e
  | _ :: _, [], _, _, _, e => by simp [srcV] at e
theorem getH_setH_ne {H : List HS} {i j : Nat} {x : HS} (h : i ≠ j) : getH (setH H j x) i = getH H i := getH_set_ne _ (Ne.symm h)
theorem varsNo_loc {ids : List Nat} {H : List HS} {j : Nat} {x : HS} (hj : j ∉ ids) : varsNo (setH H j x) ids = varsNo H ids := by
  unfold varsNo
  rw [Bool.eq_iff_iff, List.all_eq_true, List.all_eq_true]
  have key : ∀ id ∈ ids, getH (setH H j x) id = getH H id := fun id hid => getH_setH_ne fun e => hj (e ▸ hid)
  constructor
  · intro h id hid
    have := h id hid
    rwa [key id hid] at this
  · intro h id hid
    rw [key id hid]
    exact h id hid
theorem objK_loc : ∀ {ids : List Nat} {H : List HS} {j : Nat} {x : HS}, j ∉ ids → objK ty (setH H j x) ids = objK ty H ids
  | [], _, _, _, _ => rfl
  | id :: ids, H, j, x, hj => by
    simp only [List.mem_cons, not_or] at hj
    simp only [objK, getH_setH_ne (Ne.symm hj.1), objK_loc hj.2]
theorem srcV_loc : ∀ {ids : List Nat} {kos : List KO} {H : List HS} {j : Nat} {x : HS}, j ∉ ids → srcV (setH H j x) ids kos = srcV H ids kos
  | [], [], _, _, _, _ => rfl
  | [], _ :: _, _, _, _, _ => rfl
  | id :: ids, .u :: ks, _, _, _, _ => rfl
  | id :: ids, [], _, _, _, _ => rfl
  | id :: ids, .var t l :: ks, H, j, x, hj => by
    simp only [List.mem_cons, not_or] at hj
    simp only [srcV, getH_setH_ne (Ne.symm hj.1), srcV_loc hj.2]
theorem putVars_loc (v : List DC) : ∀ {ids : List Nat} {kos : List KO} {n : Nat} {H : List HS} {j : Nat} {x : HS}, j ∉ ids → putVars v n ids kos (setH H j x) = setH (putVars v n ids kos H) j x
  | [], kos, n, H, j, x, _ => by cases kos <;> rfl
  | id :: ids, [], n, H, j, x, _ => rfl
  | id :: ids, .u :: ks, n, H, j, x, _ => rfl
  | id :: ids, .var t l :: ks, n, H, j, x, hj => by
    simp only [List.mem_cons, not_or] at hj
    simp only [putVars]
    rw [setH_comm hj.1, putVars_loc v hj.2]
theorem putVars_ne (v : List DC) : ∀ {ids : List Nat} {kos : List KO} {n : Nat} {H : List HS} {j : Nat}, j ∉ ids → getH (putVars v n ids kos H) j = getH H j
  | [], kos, n, H, j, _ => by cases kos <;> rfl
  | id :: ids, [], n, H, j, _ => rfl
  | id :: ids, .u :: ks, n, H, j, _ => rfl
  | id :: ids, .var t l :: ks, n, H, j, hj => by
    simp only [List.mem_cons, not_or] at hj
    simp only [putVars]
    rw [putVars_ne v hj.2, getH_setH_ne hj.1]
theorem callCls_wl {base f : Nat} {caps : List Nat} {args : List C} {H : List HS} {l : List Nat} (hc : callCls fn base f caps args H = .wl l) :
    ∃ (fi : FI) (ids : List Nat), fn f = some fi ∧ fi.stf = none ∧ fi.mark = none ∧ caps = [] ∧ argIds fi.pk args = ids ∧ varsNo H ids = true ∧
      (∀ j, j ∉ l → j ∉ args.flatMap C.touch ∧ j ∉ (rkAll base fi.rk).flatMap K1.ids ∧ j ∉ ids) ∧ ∀ H3, varsNo H3 ids = true → callCls fn base f caps args H3 = .wl l := by
  unfold callCls at hc
  cases hf : fn f with
  | none => rw [hf] at hc; simp at hc
  | some fi =>
    rw [hf] at hc
    dsimp only at hc
    cases hst : fi.stf with
    | some m => rw [hst] at hc; simp at hc
    | none =>
    rw [hst] at hc
    dsimp only at hc
    cases hmk : fi.mark with
    | some m => rw [hmk] at hc; simp at hc
    | none =>
    rw [hmk] at hc
    dsimp only at hc
    cases caps with
    | cons _ _ => simp at hc
    | nil =>
    cases hid : argIds fi.pk args with
    | nil =>
      rw [hid] at hc
      refine ⟨fi, [], rfl, hst, hmk, rfl, hid, rfl, fun j hj => ?_, fun H3 _ => ?_⟩
      · split at hc
        all_goals first
          | (simp at hc; done)
          | (simp only [Cls.wl.injEq] at hc; subst hc; rw [List.mem_append, not_or] at hj; exact ⟨hj.1, hj.2, by simp⟩)
          | simp_all
      · unfold callCls
        rw [hf]
        dsimp only
        rw [hst]
        dsimp only
        rw [hmk]
        dsimp only
        rw [hid]
        revert hc
        cases args.all C.noOwn <;> cases (fi.rk.all fun r => r.2.all RK.isCt) <;> exact fun hc => hc
    | cons i is =>
      rw [hid] at hc
      dsimp only at hc
      cases hv : varsNo H (i :: is) with
      | false => rw [hv] at hc; simp at hc
      | true =>
        rw [hv] at hc
        simp only [Cls.wl.injEq] at hc
        subst hc
        refine ⟨fi, i :: is, rfl, hst, hmk, rfl, hid, hv, fun j hj => ?_, fun H3 h3 => ?_⟩
        · rw [List.mem_append, List.mem_append, not_or, not_or] at hj
          exact ⟨hj.1, hj.2.1, hj.2.2⟩
        · unfold callCls
          rw [hf]
          dsimp only
          rw [hst]
          dsimp only
          rw [hmk]
          dsimp only
          rw [hid]
          dsimp only
          rw [h3]
theorem callCls_loc {base f : Nat} {caps : List Nat} {args : List C} {H : List HS} {l : List Nat} {j : Nat} {x : HS} (hc : callCls fn base f caps args H = .wl l) (hj : j ∉ l) : callCls fn base f caps args (setH H j x) = .wl l := by
  obtain ⟨fi, ids, _, _, _, _, _, hv, hl, h3⟩ := callCls_wl hc
  exact h3 _ (by rw [varsNo_loc (hl j hj).2.2]; exact hv)
theorem callR_chg {base f : Nat} {tm : List C} {H H' : List HS} {args : List C} {v : C} {l : List Nat} {caps : List Nat} (hc : callCls fn base f caps args H = .wl l) (e : callR ty fn cl none base ⟨tm, H⟩ f caps args (fun H v => some (H, v)) = some (H', v)) :
    ∀ j, j ∉ l → getH H' j = getH H j := by
  intro j hjl
  obtain ⟨fi, ids, hf, hst, hmk, rfl, hid, hvn, hl, _⟩ := callCls_wl hc
  obtain ⟨hj1, hj2, hj3⟩ := hl j hjl
  unfold callR at e
  rw [hf] at e
  dsimp only at e
  rw [hst] at e
  dsimp only at e
  rw [hmk] at e
  dsimp only at e
  simp only [List.map_nil, List.append_nil, hid] at e
  split at e
  · rename_i kcs kos e1 e2
    split at e
    · rename_i p q e3 e4
      split at e
      · rename_i v0 H1 e5
        have h5 := normL_chg (j := j) (by
          rw [List.flatMap_append, srcV_no hvn e4, List.append_nil]
          exact srcT_touch hj1 e3) e5
        split at e
        · split at e
          · rename_i r hr
            split at e
            · split at e
              · rename_i H2 h2
                simp only [Option.some.injEq, Prod.mk.injEq] at e
                obtain ⟨rfl, _⟩ := e
                exact putRows_chg r hj2 h2
              · simp at e
            · split at e
              · rename_i H2 h2
                simp only [Option.some.injEq, Prod.mk.injEq] at e
                obtain ⟨rfl, _⟩ := e
                rw [putRows_chg r hj2 h2, putVars_ne r hj3, h5]
              · simp at e
          · simp at e
        · simp at e
      · simp at e
    · simp at e
  · simp at e
theorem oldRow_chg {H H1 : List HS} {e : Nat} {x : C} {l : List (List DC)} {j : Nat} (hj : j ∉ x.touch) (ho : oldRow H e x = some (l, H1)) : getH H1 j = getH H j := by
  unfold oldRow at ho
  repeat' split at ho
  all_goals first
    | (simp at ho; done)
    | skip
  · simp only [Option.some.injEq, Prod.mk.injEq] at ho
    obtain ⟨_, rfl⟩ := ho
    rfl
  · simp only [Option.some.injEq, Prod.mk.injEq] at ho
    obtain ⟨_, rfl⟩ := ho
    exact getH_set_ne _ fun h => hj (by simp [C.touch, S.touch, h])
theorem appendR_chg {t u base : Nat} {tm : List C} {H H' : List HS} {x y v : C} (e : appendR ty none t u base ⟨tm, H⟩ x y (fun H v => some (H, v)) = some (H', v)) : ∀ j, j ∉ base :: (x.touch ++ y.touch) → getH H' j = getH H j := by
  intro j hj
  simp only [List.mem_cons, List.mem_append, not_or] at hj
  unfold appendR at e
  split at e
  · simp at e
  split at e
  · simp at e
  split at e
  case isFalse => simp at e
  split at e
  · split at e
    case h_2 => simp at e
    rename_i ho hm
    repeat' split at e
    all_goals first
      | (simp at e; done)
      | skip
    simp only [Option.some.injEq, Prod.mk.injEq] at e
    obtain ⟨rfl, _⟩ := e
    rw [getH_set_ne _ fun h => hj.1 h.symm]
    exact oldRow_chg hj.2.1 ho
  · split at e
    case h_2 => simp at e
    rename_i ho
    split at e
    case h_2 => simp at e
    rename_i hm
    repeat' split at e
    all_goals first
      | (simp at e; done)
      | skip
    simp only [Option.some.injEq, Prod.mk.injEq] at e
    obtain ⟨rfl, _⟩ := e
    rw [getH_set_ne _ fun h => hj.1 h.symm, oldRow_chg hj.2.2 hm]
    exact oldRow_chg hj.2.1 ho
theorem takeCs_chg : ∀ {ts : List CT} {y : List DC} {k p : Nat} {H H1 : List HS} {ss : List S}, takeCs ts y k p H = some (ss, H1) → ∀ j, j ∉ List.range' p (slN ts) → getH H1 j = getH H j
  | [], y, k, p, H, H1, ss, e, j, _ => by
    simp only [takeCs, Option.some.injEq, Prod.mk.injEq] at e
    rw [e.2]
  | t :: ts, y, k, p, H, H1, ss, e, j, hj => by
    have rest : ∀ (s : S), (match takeCs ts y (k + 1) p H with | some (ss, H2) => some (s :: ss, H2) | none => none) = some (ss, H1) → j ∉ List.range' p (slN ts) → getH H1 j = getH H j := by
      intro s e hj
      split at e
      · rename_i h1
        simp only [Option.some.injEq, Prod.mk.injEq] at e
        obtain ⟨_, rfl⟩ := e
        exact takeCs_chg h1 j hj
      · simp at e
    cases t with
    | b => exact rest _ e hj
    | i kd => exact rest _ e hj
    | s => exact rest _ e hj
    | sl el =>
      simp only [takeCs] at e
      split at e
      · split at e
        · rename_i h1
          simp only [Option.some.injEq, Prod.mk.injEq] at e
          obtain ⟨_, rfl⟩ := e
          rw [slN, List.range'_succ, List.mem_cons, not_or] at hj
          rw [takeCs_chg h1 j hj.2, getH_set_ne _ fun h => hj.1 h.symm]
        · simp at e
      · simp at e
theorem takeCs_loc : ∀ {ts : List CT} {y : List DC} {k p : Nat} {H H1 : List HS} {ss : List S} {j : Nat} {x : HS}, j ∉ List.range' p (slN ts) → takeCs ts y k p H = some (ss, H1) → takeCs ts y k p (setH H j x) = some (ss, setH H1 j x)
  | [], y, k, p, H, H1, ss, j, x, _, e => by
    simp only [takeCs, Option.some.injEq, Prod.mk.injEq] at e ⊢
    exact ⟨e.1, by rw [e.2]⟩
  | t :: ts, y, k, p, H, H1, ss, j, x, hj, e => by
    have rest : ∀ (s : S), (match takeCs ts y (k + 1) p H with | some (ss, H2) => some (s :: ss, H2) | none => none) = some (ss, H1) → j ∉ List.range' p (slN ts) →
        (match takeCs ts y (k + 1) p (setH H j x) with | some (ss, H2) => some (s :: ss, H2) | none => none) = some (ss, setH H1 j x) := by
      intro s e hj
      split at e
      · rename_i h1
        simp only [Option.some.injEq, Prod.mk.injEq] at e
        obtain ⟨rfl, rfl⟩ := e
        rw [takeCs_loc hj h1]
      · simp at e
    cases t with
    | b => exact rest _ e hj
    | i kd => exact rest _ e hj
    | s => exact rest _ e hj
    | sl el =>
      simp only [takeCs] at e ⊢
      split at e
      · rename_i hf
        split at e
        · rename_i h1
          simp only [Option.some.injEq, Prod.mk.injEq] at e
          obtain ⟨rfl, rfl⟩ := e
          rw [slN, List.range'_succ, List.mem_cons, not_or] at hj
          rw [getH_set_ne _ hj.1, hf]
          dsimp only
          have := takeCs_loc (x := x) hj.2 h1
          rw [setH_comm fun h => hj.1 h.symm] at this
          rw [this]
        · simp at e
      · simp at e
theorem stepV_wl {base : Nat} {o : Oper} {tm : List C} {H H' : List HS} {v : C} {l : List Nat} (e : stepV ty fn cl (none : V3) base o tm H mk3 = some (.wl l, H', v)) : ∀ j, j ∉ l → getH H' j = getH H j := by
  obtain ⟨dst, op, type, pos, after, guard⟩ := o
  cases op with
  | buildSlice t n parts =>
    simp only [stepV] at e
    repeat' split at e
    all_goals first
      | (simp at e; done)
      | skip
    rename_i hr _ _ _
    obtain ⟨h1, rfl, rfl⟩ := cls_some e
    have h1 := bsCls_wl h1
    subst h1
    intro j hj
    rw [List.mem_cons, not_or] at hj
    rw [getH_set_ne _ fun h => hj.1 h.symm]
    refine rowsOf_chg ?_ hr
    exact hj.2
  | load t x =>
    simp only [stepV] at e
    cases hT : isTake ty t (opd tm x) with
    | true =>
      rw [hT] at e
      dsimp only at e
      unfold takeR at e
      repeat' split at e
      all_goals first
        | (simp at e; done)
        | skip
      all_goals
        rename_i hcs
        obtain ⟨h1, rfl, rfl⟩ := cls_some e
        simp only [Cls.wl.injEq] at h1
        subst h1
        intro j hj
        rw [List.mem_cons, not_or] at hj
        rw [takeCs_chg hcs j hj.2, getH_set_ne _ fun h => hj.1 h.symm]
    | false =>
    rw [hT] at e
    unfold loadR at e
    dsimp only at e
    repeat' split at e
    all_goals simp at e
  | convert s t x =>
    simp only [stepV] at e
    unfold convR at e
    dsimp only at e
    repeat' split at e
    all_goals simp at e
  | slice t x lo hi mx =>
    cases mx with
    | none =>
      simp only [stepV, sliceR] at e
      repeat' split at e
      all_goals first
        | (simp at e; done)
        | (obtain ⟨l', h1, h2⟩ := cutR_some2 e; obtain ⟨h3, _⟩ := cls_some h2; simp at h3)
    | some m => simp [stepV] at e
  | indexAddr t x i =>
    simp only [stepV] at e
    unfold indexR at e
    dsimp only at e
    repeat' split at e
    all_goals simp at e
  | binOp op t x y t' =>
    simp only [stepV] at e
    rw [binR_par] at e
    cases hl : binR ty none op t (opd tm x) (opd tm y) some with
    | none => rw [hl] at e; simp [via] at e
    | some r => rw [hl] at e; simp [via] at e
  | store t a x =>
    simp only [stepV] at e
    split at e
    · rw [storeR_par] at e
      cases hl : storeR ty none t ⟨tm, H⟩ (opd tm a) (opd tm x) some with
      | none => rw [hl] at e; simp [via] at e
      | some r =>
        rw [hl] at e
        obtain ⟨h, _⟩ := cls_some e
        unfold stCls at h
        split at h <;> simp at h
    · simp at e
  | call c =>
    cases hc : c.callee with
    | value f =>
      simp only [stepV, hc] at e
      split at e
      · rename_i f' caps hfn
        rw [callR_par] at e
        cases hl : callR ty fn cl none base ⟨tm, H⟩ f' caps (opds tm c.args.toList) fun H v => some (H, v) with
        | none => rw [hl] at e; simp [via] at e
        | some r =>
          rw [hl] at e
          obtain ⟨hcl, rfl, rfl⟩ := cls_some e
          exact callR_chg hcl hl
      · simp at e
    | invoke r m => simp [stepV, hc] at e
    | builtin bn =>
      simp only [stepV, hc] at e
      have ln : ∀ (x : C), (lenR (none : V3) ⟨tm, H⟩ x fun c v => mk3 c H v) = some (.wl l, H', v) → False := by
        intro x e
        unfold lenR at e
        dsimp only at e
        repeat' split at e
        all_goals simp at e
      split at e
      · exfalso
        split at e
        · split at e
          · split at e
            · exact ln _ e
            · simp at e
          · split at e
            · simp at e
            · exact ln _ e
          · simp at e
        · simp at e
      · simp at e
      · simp at e
      · split at e
        · rw [appendR_par] at e
          cases hl : appendR ty none _ _ base ⟨tm, H⟩ _ _ fun H v => some (H, v) with
          | none => rw [hl] at e; simp [via] at e
          | some r =>
            rw [hl] at e
            obtain ⟨h1, rfl, rfl⟩ := cls_some e
            simp only [Cls.wl.injEq] at h1
            subst h1
            exact appendR_chg hl
        · simp at e
      · simp at e
  | _ =>
    simp only [stepV] at e
    repeat' split at e
    all_goals simp at e
theorem toDC_loc {H H' : List HS} {t : CT} {s : S} {d : DC} {j : Nat} {x : HS} (hj : j ∉ s.touch) (e : toDC H t s = some (d, H')) : toDC (setH H j x) t s = some (d, setH H' j x) := by
  cases s with
  | own id =>
    have hne : id ≠ j := fun h => hj (by simp [S.touch, h])
    cases t with
    | sl e0 =>
      simp only [toDC] at e ⊢
      rw [getH_set_ne _ (fun h => hne h.symm)]
      split at e
      · rename_i e2 l hg
        try rw [hg]
        try dsimp only
        split at e
        · rename_i h2
          rw [if_pos h2]
          simp only [Option.some.injEq, Prod.mk.injEq] at e ⊢
          exact ⟨e.1, by rw [← e.2, setH_comm hne]⟩
        · simp at e
      · rename_i e2 l hg
        try rw [hg]
        try dsimp only
        split at e
        · rename_i h2
          rw [if_pos h2]
          simp only [Option.some.injEq, Prod.mk.injEq] at e ⊢
          exact ⟨e.1, by rw [← e.2]⟩
        · simp at e
      · rename_i e2 l hg
        try rw [hg]
        try dsimp only
        split at e
        · rename_i h2
          rw [if_pos h2]
          simp only [Option.some.injEq, Prod.mk.injEq] at e ⊢
          exact ⟨e.1, by rw [← e.2, setH_comm hne]⟩
        · simp at e
      · simp at e
    | _ => simp [toDC] at e
  | _ =>
    cases t <;> simp only [toDC] at e ⊢
    all_goals first
      | (simp at e; done)
      | (simp only [Option.some.injEq, Prod.mk.injEq] at e ⊢; exact ⟨e.1, by rw [← e.2]⟩)
      | (split at e
         · rename_i h2
           rw [if_pos h2]
           simp only [Option.some.injEq, Prod.mk.injEq] at e ⊢
           exact ⟨e.1, by rw [← e.2]⟩
         · simp at e)
theorem toDCs_loc : ∀ {ts : List CT} {ss : List S} {H H' : List HS} {d : List DC} {j : Nat} {x : HS}, j ∉ ss.flatMap S.touch → toDCs H ts ss = some (d, H') → toDCs (setH H j x) ts ss = some (d, setH H' j x)
  | [], [], H, H', d, j, x, _, e => by
    simp only [toDCs, Option.some.injEq, Prod.mk.injEq] at e ⊢
    exact ⟨e.1, by rw [← e.2]⟩
  | t :: ts, s :: ss, H, H', d, j, x, hj, e => by
    rw [List.flatMap_cons, List.mem_append, not_or] at hj
    rw [toDCs] at e ⊢
    split at e
    · rename_i h1
      rw [toDC_loc hj.1 h1]
      try dsimp only
      split at e
      · rename_i h2
        rw [toDCs_loc hj.2 h2]
        try dsimp only
        simp only [Option.some.injEq, Prod.mk.injEq] at e ⊢
        exact ⟨e.1, by rw [← e.2]⟩
      · simp at e
    · simp at e
  | [], _ :: _, _, _, _, _, _, _, e => by simp [toDCs] at e
  | _ :: _, [], _, _, _, _, _, _, e => by simp [toDCs] at e
theorem mvDC_loc {H H' : List HS} {t : CT} {s : S} {d : DC} {j : Nat} {x : HS} (hj : j ∉ s.touch) (e : mvDC ty H t s = some (d, H')) : mvDC ty (setH H j x) t s = some (d, setH H' j x) := by
  cases s with
  | own id =>
    have hne : id ≠ j := fun h => hj (by simp [S.touch, h])
    cases t with
    | sl e0 =>
      simp only [mvDC] at e ⊢
      rw [getH_set_ne _ (fun h => hne h.symm)]
      split at e
      · rename_i e2 l hg
        try rw [hg]
        try dsimp only
        split at e
        · rename_i h2
          rw [if_pos h2]
          simp only [Option.some.injEq, Prod.mk.injEq] at e ⊢
          exact ⟨e.1, by rw [← e.2, setH_comm hne]⟩
        · simp at e
      · rename_i e2 l hg
        try rw [hg]
        try dsimp only
        split at e
        · rename_i h2
          rw [if_pos h2]
          simp only [Option.some.injEq, Prod.mk.injEq] at e ⊢
          exact ⟨e.1, by rw [← e.2, setH_comm hne]⟩
        · simp at e
      · simp at e
    | _ => simp [mvDC] at e
  | _ =>
    cases t <;> simp only [mvDC] at e ⊢
    all_goals first
      | (simp at e; done)
      | (simp only [Option.some.injEq, Prod.mk.injEq] at e ⊢; exact ⟨e.1, by rw [← e.2]⟩)
      | (split at e
         · rename_i h2
           rw [if_pos h2]
           simp only [Option.some.injEq, Prod.mk.injEq] at e ⊢
           exact ⟨e.1, by rw [← e.2]⟩
         · simp at e)
theorem mvDCs_loc : ∀ {ts : List CT} {ss : List S} {H H' : List HS} {d : List DC} {j : Nat} {x : HS}, j ∉ ss.flatMap S.touch → mvDCs ty H ts ss = some (d, H') → mvDCs ty (setH H j x) ts ss = some (d, setH H' j x)
  | [], [], H, H', d, j, x, _, e => by
    simp only [mvDCs, Option.some.injEq, Prod.mk.injEq] at e ⊢
    exact ⟨e.1, by rw [← e.2]⟩
  | t :: ts, s :: ss, H, H', d, j, x, hj, e => by
    rw [List.flatMap_cons, List.mem_append, not_or] at hj
    rw [mvDCs] at e ⊢
    split at e
    · rename_i h1
      rw [mvDC_loc hj.1 h1]
      try dsimp only
      split at e
      · rename_i h2
        rw [mvDCs_loc hj.2 h2]
        try dsimp only
        simp only [Option.some.injEq, Prod.mk.injEq] at e ⊢
        exact ⟨e.1, by rw [← e.2]⟩
      · simp at e
    · simp at e
  | [], _ :: _, _, _, _, _, _, _, e => by simp [mvDCs] at e
  | _ :: _, [], _, _, _, _, _, _, e => by simp [mvDCs] at e
theorem putDCs_loc {d0' : Bool} {ts : List CT} {ss : List S} {H H' : List HS} {d : List DC} {j : Nat} {x : HS} (hj : j ∉ ss.flatMap S.touch) (e : putDCs ty d0' H ts ss = some (d, H')) : putDCs ty d0' (setH H j x) ts ss = some (d, setH H' j x) := by
  cases d0' with
  | false => exact toDCs_loc hj e
  | true => exact mvDCs_loc hj e
theorem rowsOf_loc {dd : Bool} {ts : List CT} : ∀ {l : List (Nat × C)} {n : Nat} {H H' : List HS} {d : List (List DC)} {j : Nat} {x : HS}, j ∉ l.flatMap (fun p => p.2.touch) → rowsOf ty dd H ts n l = some (d, H') → rowsOf ty dd (setH H j x) ts n l = some (d, setH H' j x)
  | [], n, H, H', d, j, x, _, e => by
    simp only [rowsOf, Option.some.injEq, Prod.mk.injEq] at e ⊢
    exact ⟨e.1, by rw [← e.2]⟩
  | (i, c) :: l, n, H, H', d, j, x, hj, e => by
    rw [List.flatMap_cons, List.mem_append, not_or] at hj
    rw [rowsOf] at e ⊢
    split at e
    · rename_i hi
      rw [if_pos hi]
      split at e
      · rename_i ss hc
        try rw [hc]
        try dsimp only
        split at e
        · rename_i h1
          rw [putDCs_loc (by rw [cells_touch hc]; exact hj.1) h1]
          try dsimp only
          split at e
          · rename_i h2
            rw [rowsOf_loc hj.2 h2]
            try dsimp only
            simp only [Option.some.injEq, Prod.mk.injEq] at e ⊢
            exact ⟨e.1, by rw [← e.2]⟩
          · simp at e
        · simp at e
      · simp at e
    · simp at e
theorem normK1_loc {H H' : List HS} {k : K1} {s : S} {d : List DC} {j : Nat} {x : HS} (hj : j ∉ s.touch) (e : normK1 ty H k s = some (d, H')) : normK1 ty (setH H j x) k s = some (d, setH H' j x) := by
  cases k with
  | sl e0 =>
    simp only [normK1] at e ⊢
    split at e
    · rename_i h1
      rw [toDC_loc hj h1]
      try dsimp only
      simp only [Option.some.injEq, Prod.mk.injEq] at e ⊢
      exact ⟨e.1, by rw [← e.2]⟩
    · simp at e
  | own e0 i0 =>
    cases s with
    | own id =>
      have hne : id ≠ j := fun h => hj (by simp [S.touch, h])
      simp only [normK1] at e ⊢
      rw [getH_set_ne _ (fun h => hne h.symm)]
      split at e
      · rename_i e2 l hg
        try rw [hg]
        try dsimp only
        split at e
        · rename_i h2
          rw [if_pos h2]
          simp only [Option.some.injEq, Prod.mk.injEq] at e ⊢
          exact ⟨e.1, by rw [← e.2, setH_comm hne]⟩
        · rename_i h2
          rw [if_neg h2]
          split at e
          · rename_i h3
            rw [if_pos h3]
            simp only [Option.some.injEq, Prod.mk.injEq] at e ⊢
            exact ⟨e.1, by rw [← e.2, setH_comm hne]⟩
          · simp at e
      · rename_i e2 l hg
        try rw [hg]
        try dsimp only
        split at e
        · rename_i h2
          rw [if_pos h2]
          simp only [Option.some.injEq, Prod.mk.injEq] at e ⊢
          exact ⟨e.1, by rw [← e.2, setH_comm hne]⟩
        · simp at e
      · simp at e
    | nil =>
      simp only [normK1] at e ⊢
      split at e
      · simp only [Option.some.injEq, Prod.mk.injEq] at e ⊢
        exact ⟨e.1, by rw [← e.2]⟩
      split at e
      · rename_i ti ht
        try rw [ht]
        try dsimp only
        split at e
        · rename_i h2
          rw [if_pos h2]
          simp only [Option.some.injEq, Prod.mk.injEq] at e ⊢
          exact ⟨e.1, by rw [← e.2]⟩
        · simp at e
      · simp at e
    | _ => simp [normK1] at e
  | _ =>
    cases s <;> simp only [normK1] at e ⊢
    all_goals first
      | (simp at e; done)
      | (simp only [Option.some.injEq, Prod.mk.injEq] at e ⊢; exact ⟨e.1, by rw [← e.2]⟩)
      | (split at e
         · rename_i h2
           rw [if_pos h2]
           simp only [Option.some.injEq, Prod.mk.injEq] at e ⊢
           exact ⟨e.1, by rw [← e.2]⟩
         · simp at e)
theorem normL_loc : ∀ {ks : List K1} {ss : List S} {H H' : List HS} {d : List DC} {j : Nat} {x : HS}, j ∉ ss.flatMap S.touch → normL ty H ks ss = some (d, H') → normL ty (setH H j x) ks ss = some (d, setH H' j x)
  | [], [], H, H', d, j, x, _, e => by
    simp only [normL, Option.some.injEq, Prod.mk.injEq] at e ⊢
    exact ⟨e.1, by rw [← e.2]⟩
  | k :: ks, s :: ss, H, H', d, j, x, hj, e => by
    rw [List.flatMap_cons, List.mem_append, not_or] at hj
    rw [normL] at e ⊢
    split at e
    · rename_i h1
      rw [normK1_loc hj.1 h1]
      try dsimp only
      split at e
      · rename_i h2
        rw [normL_loc hj.2 h2]
        try dsimp only
        simp only [Option.some.injEq, Prod.mk.injEq] at e ⊢
        exact ⟨e.1, by rw [← e.2]⟩
      · simp at e
    · simp at e
  | [], _ :: _, _, _, _, _, _, _, e => by simp [normL] at e
  | _ :: _, [], _, _, _, _, _, _, e => by simp [normL] at e
theorem putRows_loc (v : List DC) : ∀ {ks : List K1} {n : Nat} {H H' : List HS} {j : Nat} {x : HS}, j ∉ ks.flatMap K1.ids → putRows v n ks H = some H' → putRows v n ks (setH H j x) = some (setH H' j x)
  | [], n, H, H', j, x, _, e => by
    simp only [putRows, Option.some.injEq] at e ⊢
    rw [e]
  | k :: ks, n, H, H', j, x, hj, e => by
    rw [List.flatMap_cons, List.mem_append, not_or] at hj
    cases k with
    | own e0 id =>
      have hne : id ≠ j := fun h => hj.1 (by simp [K1.ids, h])
      rw [putRows] at e ⊢
      rw [getH_set_ne _ (fun h => hne h.symm)]
      split at e
      · rename_i hg
        try rw [hg]
        try dsimp only
        rw [← setH_comm hne]
        exact putRows_loc v hj.2 e
      · simp at e
    | _ => exact putRows_loc (ks := ks) v hj.2 e
theorem callR_loc {base f : Nat} {tm : List C} {H H' : List HS} {args : List C} {v : C} {l : List Nat} {caps : List Nat} {j : Nat} {x : HS} (hc : callCls fn base f caps args H = .wl l) (hjl : j ∉ l) (e : callR ty fn cl none base ⟨tm, H⟩ f caps args (fun H v => some (H, v)) = some (H', v)) :
    callR ty fn cl none base ⟨tm, setH H j x⟩ f caps args (fun H v => some (H, v)) = some (setH H' j x, v) := by
  obtain ⟨fi, ids, hf, hst, hmk, rfl, hid, hvn, hl, _⟩ := callCls_wl hc
  obtain ⟨hj1, hj2, hj3⟩ := hl j hjl
  unfold callR at e ⊢
  rw [hf] at e
  try simp only [hf]
  dsimp only at e ⊢
  rw [hst] at e
  simp only [hst]
  dsimp only at e
  rw [hmk] at e
  simp only [hmk]
  dsimp only at e ⊢
  simp only [List.map_nil, List.append_nil, hid] at e ⊢
  rw [objK_loc hj3]
  split at e
  · rename_i kcs kos e1 e2
    try simp only [e1, e2]
    rw [srcV_loc hj3]
    split at e
    · rename_i p q e3 e4
      try simp only [e3, e4]
      split at e
      · rename_i v0 H1 e5
        rw [normL_loc (x := x) (by
          rw [List.flatMap_append, srcV_no hvn e4, List.append_nil]
          exact srcT_touch hj1 e3) e5]
        try dsimp only
        split at e
        · rename_i hok
          have hok2 : (nodupB ids && (([] : List Nat).all (isVarB (setH H j x))) && ({ tm := kcs, ob := kos ++ List.replicate (fi.pk.filter PK.isMv).length .u } : Hint).ok) = true := by
            simp only [Bool.and_eq_true] at hok ⊢
            exact ⟨⟨hok.1.1, rfl⟩, hok.2⟩
          rw [if_pos hok2]
          split at e
          · rename_i r hr
            split at e
            · split at e
              · rename_i H2 h2
                rw [putRows_loc r hj2 h2]
                simp only [Option.some.injEq, Prod.mk.injEq] at e ⊢
                exact ⟨by rw [← e.1], e.2⟩
              · simp at e
            · rw [putVars_loc r hj3]
              split at e
              · rename_i H2 h2
                rw [putRows_loc r hj2 h2]
                simp only [Option.some.injEq, Prod.mk.injEq] at e ⊢
                exact ⟨by rw [← e.1], e.2⟩
              · simp at e
          · simp at e
        · simp at e
      · simp at e
    · simp at e
  · simp at e
theorem sliceOf_loc {H : List HS} {s : S} {j : Nat} {x : HS} (hj : j ∉ s.touch) : sliceOf (setH H j x) s = sliceOf H s := by
  cases s with
  | own id =>
    have hne : id ≠ j := fun h => hj (by simp [S.touch, h])
    simp only [sliceOf]
    rw [getH_set_ne _ (fun h => hne h.symm)]
  | _ => rfl
theorem newRows_loc {H : List HS} {t u e0 : Nat} {te : TI} {y : C} {j : Nat} {x : HS} (hj : j ∉ y.touch) : newRows ty (setH H j x) t u e0 te y = newRows ty H t u e0 te y := by
  cases y with
  | one s =>
    cases s with
    | own id => simp only [newRows]; rw [sliceOf_loc hj]
    | _ => rfl
  | _ => rfl
theorem isDp_loc {H : List HS} {y : C} {j : Nat} {x : HS} (hj : j ∉ y.touch) : isDp (setH H j x) y = isDp H y := by
  cases y with
  | one s =>
    cases s with
    | own id =>
      have hne : id ≠ j := fun h => hj (by simp [C.touch, S.touch, h])
      simp only [isDp]
      rw [getH_set_ne _ (fun h => hne h.symm)]
    | _ => rfl
  | _ => rfl
theorem oldRow_loc {H H1 : List HS} {e0 : Nat} {a : C} {l : List (List DC)} {j : Nat} {x : HS} (hj : j ∉ a.touch) (ho : oldRow H e0 a = some (l, H1)) : oldRow (setH H j x) e0 a = some (l, setH H1 j x) := by
  unfold oldRow at ho ⊢
  split at ho
  · simp only [Option.some.injEq, Prod.mk.injEq] at ho ⊢
    exact ⟨ho.1, by rw [ho.2]⟩
  · rename_i id
    have hne : id ≠ j := fun h => hj (by simp [C.touch, S.touch, h])
    try dsimp only
    rw [getH_set_ne _ (fun h => hne h.symm)]
    split at ho
    · rename_i e2 l2 hg
      try rw [hg]
      try dsimp only
      split at ho
      · rename_i h2
        rw [if_pos h2]
        simp only [Option.some.injEq, Prod.mk.injEq] at ho ⊢
        exact ⟨ho.1, by rw [← ho.2, setH_comm hne]⟩
      · simp at ho
    · simp at ho
  · simp at ho
theorem appendR_loc {t u base : Nat} {tm : List C} {H H' : List HS} {a y v : C} {j : Nat} {x : HS} (hj : j ∉ base :: (a.touch ++ y.touch)) (e : appendR ty none t u base ⟨tm, H⟩ a y (fun H v => some (H, v)) = some (H', v)) :
    appendR ty none t u base ⟨tm, setH H j x⟩ a y (fun H v => some (H, v)) = some (setH H' j x, v) := by
  simp only [List.mem_cons, List.mem_append, not_or] at hj
  unfold appendR at e ⊢
  split at e
  · simp at e
  · rename_i e0 he0
    split at e
    · simp at e
    · rename_i te hte
      dsimp only at e ⊢
      split at e
      · rename_i hb
        rw [if_pos hb, isDp_loc hj.2.1, isDp_loc hj.2.2]
        split at e
        · split at e
          · rename_i l H1 m ho hm
            rw [oldRow_loc hj.2.1 ho, newRows_loc hj.2.2, hm]
            try dsimp only
            rw [getH_set_ne _ hj.1]
            split at e
            · rename_i hg
              try rw [hg]
              try dsimp only
              split at e
              · rename_i hl
                rw [if_pos hl]
                simp only [Option.some.injEq, Prod.mk.injEq] at e ⊢
                exact ⟨by rw [← e.1, setH_comm hj.1], e.2⟩
              · simp at e
            · simp at e
          · simp at e
        · split at e
          · rename_i l H1 ho
            rw [oldRow_loc hj.2.1 ho]
            try dsimp only
            split at e
            · rename_i m H2 hm
              rw [oldRow_loc hj.2.2 hm]
              try dsimp only
              rw [getH_set_ne _ hj.1]
              split at e
              · rename_i hg
                try rw [hg]
                try dsimp only
                split at e
                · rename_i hl
                  rw [if_pos hl]
                  simp only [Option.some.injEq, Prod.mk.injEq] at e ⊢
                  exact ⟨by rw [← e.1, setH_comm hj.1], e.2⟩
                · simp at e
              · simp at e
            · simp at e
          · simp at e
      · simp at e
theorem stepV_wl_loc {base : Nat} {o : Oper} {tm : List C} {H H' : List HS} {v : C} {l : List Nat} {j : Nat} {x : HS} (hj : j ∉ l) (e : stepV ty fn cl (none : V3) base o tm H mk3 = some (.wl l, H', v)) : stepV ty fn cl (none : V3) base o tm (setH H j x) mk3 = some (.wl l, setH H' j x, v) := by
  obtain ⟨dst, op, type, pos, after, guard⟩ := o
  cases op with
  | buildSlice t n parts =>
    simp only [stepV] at e ⊢
    split at e
    · rename_i e0 he0
      try rw [he0]
      try dsimp only
      split at e
      · rename_i te hte
        try rw [hte]
        try dsimp only
        split at e
        · rename_i l0 H1 hr
          split at e
          · rename_i hg
            split at e
            · rename_i hc
              obtain ⟨h1, rfl, rfl⟩ := cls_some e
              have hl := bsCls_wl h1
              subst hl
              simp only [List.mem_cons, not_or] at hj
              rw [rowsOf_loc hj.2 hr]
              dsimp only
              rw [getH_set_ne _ hj.1, hg]
              dsimp only
              rw [if_pos hc]
              show some (bsCls _ _, setH (setH H1 j x) base _, _) = _
              rw [h1, setH_comm hj.1]
            · simp at e
          · simp at e
        · simp at e
      · simp at e
    · simp at e
  | load t y =>
    simp only [stepV] at e ⊢
    cases hT : isTake ty t (opd tm y) with
    | true =>
      rw [hT] at e
      dsimp only at e ⊢
      unfold takeR at e ⊢
      split at e
      · rename_i ti el id ix hti hid
        split at e
        · rename_i te e' l0 hte hr
          split at e
          · rename_i hc
            split at e
            · rename_i hh
              split at e
              · rename_i ss H1 hcs
                obtain ⟨h1, rfl, rfl⟩ := cls_some e
                simp only [Cls.wl.injEq] at h1
                subst h1
                rw [List.mem_cons, not_or] at hj
                rw [hte, getH_set_ne _ hj.1, hr]
                dsimp only
                rw [if_pos hc]
                try rw [hh]
                try dsimp only
                rw [setH_comm hj.1, takeCs_loc hj.2 hcs]
              · simp at e
            · rename_i hh
              split at e
              · rename_i hpos
                split at e
                · rename_i ss H1 hcs
                  obtain ⟨h1, rfl, rfl⟩ := cls_some e
                  simp only [Cls.wl.injEq] at h1
                  subst h1
                  rw [List.mem_cons, not_or] at hj
                  rw [hte, getH_set_ne _ hj.1, hr]
                  dsimp only
                  rw [if_pos hc]
                  try rw [hh]
                  try dsimp only
                  rw [if_pos hpos, setH_comm hj.1, takeCs_loc hj.2 hcs]
                · simp at e
              · simp at e
          · simp at e
        · simp at e
      · simp at e
    | false =>
    rw [hT] at e
    unfold loadR at e
    dsimp only at e
    repeat' split at e
    all_goals simp at e
  | convert s t x =>
    simp only [stepV] at e
    unfold convR at e
    dsimp only at e
    repeat' split at e
    all_goals simp at e
  | slice t x lo hi mx =>
    cases mx with
    | none =>
      simp only [stepV, sliceR] at e
      repeat' split at e
      all_goals first
        | (simp at e; done)
        | (obtain ⟨l', h1, h2⟩ := cutR_some2 e; obtain ⟨h3, _⟩ := cls_some h2; simp at h3)
    | some m => simp [stepV] at e
  | indexAddr t x i =>
    simp only [stepV] at e
    unfold indexR at e
    dsimp only at e
    repeat' split at e
    all_goals simp at e
  | binOp op t x y t' =>
    simp only [stepV] at e
    rw [binR_par] at e
    cases hl : binR ty none op t (opd tm x) (opd tm y) some with
    | none => rw [hl] at e; simp [via] at e
    | some r => rw [hl] at e; simp [via] at e
  | store t a x =>
    simp only [stepV] at e
    split at e
    · rw [storeR_par] at e
      cases hl : storeR ty none t ⟨tm, H⟩ (opd tm a) (opd tm x) some with
      | none => rw [hl] at e; simp [via] at e
      | some r =>
        rw [hl] at e
        obtain ⟨h, _⟩ := cls_some e
        unfold stCls at h
        split at h <;> simp at h
    · simp at e
  | call c =>
    cases hc : c.callee with
    | value f =>
      simp only [stepV, hc] at e
      split at e
      · rename_i f' caps hfn
        rw [callR_par] at e
        cases hl : callR ty fn cl none base ⟨tm, H⟩ f' caps (opds tm c.args.toList) fun H v => some (H, v) with
        | none => rw [hl] at e; simp [via] at e
        | some r =>
          rw [hl] at e
          obtain ⟨hcl, rfl, rfl⟩ := cls_some e
          simp only [stepV, hc, hfn]
          rw [callR_par, callR_loc (H' := r.1) (v := r.2) hcl hj hl, callCls_loc hcl hj]
          rfl
      · simp at e
    | invoke r m => simp [stepV, hc] at e
    | builtin bn =>
      simp only [stepV, hc] at e
      have ln : ∀ (x : C), (lenR (none : V3) ⟨tm, H⟩ x fun c v => mk3 c H v) = some (.wl l, H', v) → False := by
        intro x e
        unfold lenR at e
        dsimp only at e
        repeat' split at e
        all_goals simp at e
      split at e
      · exfalso
        split at e
        · split at e
          · split at e
            · exact ln _ e
            · simp at e
          · split at e
            · simp at e
            · exact ln _ e
          · simp at e
        · simp at e
      · simp at e
      · simp at e
      · split at e
        · rw [appendR_par] at e
          cases hl : appendR ty none _ _ base ⟨tm, H⟩ _ _ fun H v => some (H, v) with
          | none => rw [hl] at e; simp [via] at e
          | some r =>
            rw [hl] at e
            obtain ⟨h1, rfl, rfl⟩ := cls_some e
            simp only [Cls.wl.injEq] at h1
            subst h1
            rename_i hat
            simp only [stepV, hc]
            simp only [*]
            rw [appendR_par, appendR_loc (H' := r.1) (v := r.2) hj hl]
            rfl
        · simp at e
      · simp at e
  | _ =>
    simp only [stepV] at e
    repeat' split at e
    all_goals simp at e
theorem cells_noOwn {c : C} {ss : List S} (hc : c.noOwn = true) (h : c.cells = some ss) : ss.all S.noOwn = true := by
  unfold C.cells at h
  split at h
  · split at h
    · simp only [Option.some.injEq] at h; subst h; simpa [C.noOwn] using hc
    · simp at h
  · split at h
    · simp only [Option.some.injEq] at h; subst h; exact hc
    · simp at h
  · simp at h
theorem toDCs_indep : ∀ {ts : List CT} {ss : List S} {H H' : List HS} {d : List DC} (H3 : List HS), ss.all S.noOwn = true → toDCs H ts ss = some (d, H') → toDCs H3 ts ss = some (d, H3)
  | [], [], H, H', d, H3, _, e => by
    simp only [toDCs, Option.some.injEq, Prod.mk.injEq] at e ⊢
    exact ⟨e.1, trivial⟩
  | t :: ts, s :: ss, H, H', d, H3, hs, e => by
    rw [List.all_cons, Bool.and_eq_true] at hs
    rw [toDCs] at e ⊢
    split at e
    · rename_i h1
      rw [toDC_indep hs.1 h1]
      dsimp only
      split at e
      · rename_i h2
        rw [toDCs_indep H3 hs.2 h2]
        simp only [Option.some.injEq, Prod.mk.injEq] at e ⊢
        exact ⟨e.1, trivial⟩
      · simp at e
    · simp at e
  | [], _ :: _, _, _, _, _, _, e => by simp [toDCs] at e
  | _ :: _, [], _, _, _, _, _, e => by simp [toDCs] at e
theorem mvDC_indep {t : CT} {sc : S} {H H' : List HS} {d : DC} {H3 : List HS} (hs : sc.noOwn = true) (e : mvDC ty H t sc = some (d, H')) : mvDC ty H3 t sc = some (d, H3) := by
  cases sc with
  | own id => simp [S.noOwn] at hs
  | _ =>
    cases t <;> simp only [mvDC] at e ⊢
    all_goals first
      | (simp at e; done)
      | (simp only [Option.some.injEq, Prod.mk.injEq] at e ⊢; exact ⟨e.1, trivial⟩)
      | (split at e
         · rename_i h2
           rw [if_pos h2]
           simp only [Option.some.injEq, Prod.mk.injEq] at e ⊢
           exact ⟨e.1, trivial⟩
         · simp at e)
theorem mvDCs_indep : ∀ {ts : List CT} {ss : List S} {H H' : List HS} {d : List DC} (H3 : List HS), ss.all S.noOwn = true → mvDCs ty H ts ss = some (d, H') → mvDCs ty H3 ts ss = some (d, H3)
  | [], [], H, H', d, H3, _, e => by
    simp only [mvDCs, Option.some.injEq, Prod.mk.injEq] at e ⊢
    exact ⟨e.1, trivial⟩
  | t :: ts, s :: ss, H, H', d, H3, hs, e => by
    rw [List.all_cons, Bool.and_eq_true] at hs
    rw [mvDCs] at e ⊢
    split at e
    · rename_i h1
      rw [mvDC_indep hs.1 h1]
      dsimp only
      split at e
      · rename_i h2
        rw [mvDCs_indep H3 hs.2 h2]
        simp only [Option.some.injEq, Prod.mk.injEq] at e ⊢
        exact ⟨e.1, trivial⟩
      · simp at e
    · simp at e
  | [], _ :: _, _, _, _, _, _, e => by simp [mvDCs] at e
  | _ :: _, [], _, _, _, _, _, e => by simp [mvDCs] at e
theorem putDCs_indep {d0' : Bool} {ts : List CT} {ss : List S} {H H' : List HS} {d : List DC} (H3 : List HS) (hs : ss.all S.noOwn = true) (e : putDCs ty d0' H ts ss = some (d, H')) : putDCs ty d0' H3 ts ss = some (d, H3) := by
  cases d0' with
  | false => exact toDCs_indep H3 hs e
  | true => exact mvDCs_indep H3 hs e
theorem rowsOf_indep {dd : Bool} {ts : List CT} : ∀ {l : List (Nat × C)} {n : Nat} {H H' : List HS} {d : List (List DC)} (H3 : List HS), l.all (fun p => p.2.noOwn) = true → rowsOf ty dd H ts n l = some (d, H') → rowsOf ty dd H3 ts n l = some (d, H3)
  | [], n, H, H', d, H3, _, e => by
    simp only [rowsOf, Option.some.injEq, Prod.mk.injEq] at e ⊢
    exact ⟨e.1, trivial⟩
  | (i, c) :: l, n, H, H', d, H3, hl, e => by
    rw [List.all_cons, Bool.and_eq_true] at hl
    rw [rowsOf] at e ⊢
    split at e
    · rename_i hi
      try rw [if_pos hi]
      split at e
      · rename_i ss hc
        try rw [hc]
        try dsimp only
        split at e
        · rename_i h1
          rw [putDCs_indep H3 (cells_noOwn hl.1 hc) h1]
          dsimp only
          split at e
          · rename_i h2
            rw [rowsOf_indep H3 hl.2 h2]
            simp only [Option.some.injEq, Prod.mk.injEq] at e ⊢
            exact ⟨e.1, trivial⟩
          · simp at e
        · simp at e
      · simp at e
    · simp at e
theorem stepV_nb {base i : Nat} {o : Oper} {tm : List C} {H H' : List HS} {v : C} (e : stepV ty fn cl (none : V3) base o tm H mk3 = some (.nb i, H', v)) :
    i = base ∧ getH H base = .free ∧ ∃ ob, H' = setH H base (.live ob) ∧ ∀ H3, getH H3 base = .free → stepV ty fn cl (none : V3) base o tm H3 mk3 = some (.nb i, setH H3 base (.live ob), v) := by
  obtain ⟨dst, op, type, pos, after, guard⟩ := o
  cases op with
  | buildSlice t n parts =>
    simp only [stepV] at e ⊢
    split at e
    · rename_i e0 he0
      try rw [he0]
      try dsimp only
      split at e
      · rename_i te hte
        try rw [hte]
        try dsimp only
        split at e
        · rename_i l0 H1 hr
          split at e
          · rename_i hg
            split at e
            · rename_i hc
              obtain ⟨h1, rfl, rfl⟩ := cls_some e
              obtain ⟨hb, hno⟩ := bsCls_nb h1
              have hH := rowsOf_indep H hno hr
              rw [hr] at hH
              simp only [Option.some.injEq, Prod.mk.injEq, true_and] at hH
              subst hH
              refine ⟨hb, hg, _, rfl, fun H3 h3 => ?_⟩
              rw [rowsOf_indep H3 hno hr]
              dsimp only
              rw [h3]
              dsimp only
              rw [if_pos hc]
              show some (bsCls _ _, _, _) = _
              rw [h1]
            · simp at e
          · simp at e
        · simp at e
      · simp at e
    · simp at e
  | alloc t =>
    simp only [stepV] at e ⊢
    split at e
    · rename_i ti ht hb
      obtain ⟨h1, rfl, rfl⟩ := cls_some e
      simp only [Cls.nb.injEq] at h1
      subst h1
      exact ⟨rfl, hb, _, rfl, fun H3 h3 => by simp only [ht, h3]⟩
    · simp at e
  | box t x =>
    simp only [stepV] at e ⊢
    split at e
    · rename_i ti ss ht hx hb
      split at e
      · rename_i hl
        obtain ⟨h1, rfl, rfl⟩ := cls_some e
        simp only [Cls.nb.injEq] at h1
        subst h1
        exact ⟨rfl, hb, _, rfl, fun H3 h3 => by simp only [ht, hx, h3, hl, if_true]⟩
      · simp at e
    · simp at e
  | load t x =>
    simp only [stepV] at e
    unfold takeR loadR at e
    dsimp only at e
    repeat' split at e
    all_goals simp at e
  | convert s t x =>
    simp only [stepV] at e
    unfold convR at e
    dsimp only at e
    repeat' split at e
    all_goals simp at e
  | slice t x lo hi mx =>
    cases mx with
    | none =>
      simp only [stepV, sliceR] at e
      repeat' split at e
      all_goals first
        | (simp at e; done)
        | (obtain ⟨l', h1, h2⟩ := cutR_some2 e; obtain ⟨h3, _⟩ := cls_some h2; simp at h3)
    | some m => simp [stepV] at e
  | indexAddr t x i =>
    simp only [stepV] at e
    unfold indexR at e
    dsimp only at e
    repeat' split at e
    all_goals simp at e
  | binOp op t x y t' =>
    simp only [stepV] at e
    rw [binR_par] at e
    cases hl : binR ty none op t (opd tm x) (opd tm y) some with
    | none => rw [hl] at e; simp [via] at e
    | some r => rw [hl] at e; simp [via] at e
  | store t a x =>
    simp only [stepV] at e
    split at e
    · rw [storeR_par] at e
      cases hl : storeR ty none t ⟨tm, H⟩ (opd tm a) (opd tm x) some with
      | none => rw [hl] at e; simp [via] at e
      | some r =>
        rw [hl] at e
        obtain ⟨h, _⟩ := cls_some e
        unfold stCls at h
        split at h <;> simp at h
    · simp at e
  | call c =>
    cases hc : c.callee with
    | value f =>
      simp only [stepV, hc] at e
      split at e
      · rename_i f' caps hfn
        rw [callR_par] at e
        cases hl : callR ty fn cl none base ⟨tm, H⟩ f' caps (opds tm c.args.toList) fun H v => some (H, v) with
        | none => rw [hl] at e; simp [via] at e
        | some r =>
          rw [hl] at e
          obtain ⟨hcl, rfl, rfl⟩ := cls_some e
          exfalso
          unfold callCls at hcl
          repeat' split at hcl
          all_goals simp at hcl
      · simp at e
    | invoke r m => simp [stepV, hc] at e
    | builtin bn =>
      simp only [stepV, hc] at e
      have ln : ∀ (x : C), (lenR (none : V3) ⟨tm, H⟩ x fun c v => mk3 c H v) = some (.nb i, H', v) → False := by
        intro x e
        unfold lenR at e
        dsimp only at e
        repeat' split at e
        all_goals simp at e
      split at e
      · exfalso
        split at e
        · split at e
          · split at e
            · exact ln _ e
            · simp at e
          · split at e
            · simp at e
            · exact ln _ e
          · simp at e
        · simp at e
      · simp at e
      · simp at e
      · split at e
        · rw [appendR_par] at e
          cases hl : appendR ty none _ _ base ⟨tm, H⟩ _ _ fun H v => some (H, v) with
          | none => rw [hl] at e; simp [via] at e
          | some r =>
            rw [hl] at e
            simp [via] at e
        · simp at e
      · simp at e
  | _ =>
    simp only [stepV] at e
    repeat' split at e
    all_goals simp at e
end
section
variable {P : Program} {ty : Nat → Option TI} {fn : Nat → Option FI} {cl : Nat → Hint → List DC → Out} {A : An}
def op1 (ty : Nat → Option TI) (fn : Nat → Option FI) (cl : Nat → Hint → List DC → Out) (all : Array Oper) (base : Nat) (o : Oper) (st : St) : Option (Cls × St) :=
  opR ty fn cl none all base o st fun c st' => some (c, st')
theorem stepR_par {ρ : Type} {fail : ρ} {base : Nat} {o : Oper} {st : St} {K : Cls → St → ρ} :
    stepR ty fn cl fail base o st K = via fail (stepR ty fn cl none base o st fun c st' => some (c, st')) fun r => K r.1 r.2 := by
  unfold stepR
  dsimp only
  have h2 := stepV_par (ty := ty) (fn := fn) (cl := cl) (fail := (none : Option (Cls × St))) (base := base) (o := o) (tm := st.tm) (H := st.H) (K := fun c H v => some (c, { tm := putC st.tm o.dst v, H := H }))
  rw [h2, via_via, stepV_par (fail := fail)]
  rfl
theorem opR_par {ρ : Type} {fail : ρ} {all : Array Oper} {base : Nat} {o : Oper} {st : St} {K : Cls → St → ρ} :
    opR ty fn cl fail all base o st K = via fail (op1 ty fn cl all base o st) fun r => K r.1 r.2 := by
  unfold op1 opR
  repeat' split
  all_goals first | rfl | exact stepR_par
theorem set_same {tm : List C} {d : Nat} {c : C} (h : tm.getD d (.one .undef) = c) (hc : c ≠ .one .undef) : tm.set d c = tm := by
  apply List.ext_getElem?
  intro i
  rw [List.getElem?_set]
  split
  · rename_i hi
    subst hi
    rw [List.getD_eq_getElem?_getD] at h
    cases hk : tm[d]? with
    | none => rw [hk] at h; exact absurd h.symm hc
    | some x =>
      rw [hk] at h
      have hlt : d < tm.length := by
        rcases Nat.lt_or_ge d tm.length with h' | h'
        · exact h'
        · simp [List.getElem?_eq_none h'] at hk
      simp only [Option.getD_some] at h
      simp [hlt, h]
  · rfl
def gd (all : Array Oper) (o : Oper) (tm : List C) : Option Bool :=
  match o.guard with
  | none => some true
  | some (j, want) =>
    match (all[j]?).bind (·.dst) with
    | none => none
    | some d =>
      match tm.getD d (.one .undef) with
      | .one (.bool b) => some (b == want)
      | .tup [] => some false
      | _ => none
theorem op1_eq {all : Array Oper} {base : Nat} {o : Oper} {tm : List C} {H : List HS} :
    op1 ty fn cl all base o ⟨tm, H⟩ = match gd all o tm with
      | none => none
      | some true => (stepV ty fn cl (none : V3) base o tm H mk3).map fun r => (r.1, ⟨putC tm o.dst r.2.2, r.2.1⟩)
      | some false => some (.t, ⟨putC tm o.dst (.tup []), H⟩) := by
  have st : stepR ty fn cl none base o ⟨tm, H⟩ (fun c st' => some (c, st')) = (stepV ty fn cl (none : V3) base o tm H mk3).map fun r => (r.1, ⟨putC tm o.dst r.2.2, r.2.1⟩) := by
    unfold stepR
    rw [stepV_par]
    cases stepV ty fn cl (none : V3) base o tm H mk3 <;> rfl
  unfold op1 opR gd
  cases hg : o.guard with
  | none => exact st
  | some jw =>
    obtain ⟨j, want⟩ := jw
    dsimp only
    cases hd : (all[j]?).bind (·.dst) with
    | none => rfl
    | some d =>
      dsimp only
      cases hc : tm.getD d (.one .undef) with
      | one s =>
        cases s with
        | bool b =>
          have hs := set_same hc (by simp)
          cases b <;> cases want <;> simp [hs, st]
        | _ => rfl
      | tup l => cases l <;> rfl
      | _ => rfl
theorem gd_wanted {g : Gh} {tm : List C} {H : List HS} {a : Act} {w : World} (h : Rel ty A g ⟨tm, H⟩ a w) {all : Array Oper} {o : Oper} {b : Bool} (e : gd all o tm = some b) : Region.wanted o (yielded all a.tmps) = b := by
  unfold gd at e
  unfold Region.wanted
  split at e
  · rename_i hg
    rw [hg]
    simpa using e
  · rename_i j want hg
    rw [hg]
    dsimp only
    split at e
    · simp at e
    · rename_i d hd
      unfold yielded
      rw [hd]
      simp only [Option.bind_some]
      have hr := h.getD d
      rw [Array.getD_eq_getD_getElem?] at hr
      split at e
      · rename_i x hx
        rw [hx] at hr
        have hv : (a.tmps[d]?).getD undef = .bool x := hr
        cases ht : a.tmps[d]? with
        | none => rw [ht] at hv; simp [undef] at hv
        | some v =>
          rw [ht] at hv
          simp only [Option.getD_some] at hv
          subst hv
          simp only [Option.some.injEq] at e
          simp only []
          rw [← e]
          cases x <;> cases want <;> rfl
      · rename_i hx
        rw [hx] at hr
        obtain ⟨vs, h1, h2, _⟩ := hr
        have : vs = [] := List.eq_nil_of_length_eq_zero (by simpa using h2)
        subst this
        simp only [Option.some.injEq] at e
        subst e
        cases ht : a.tmps[d]? with
        | none => simp
        | some v =>
          rw [ht] at h1
          simp only [Option.getD_some] at h1
          subst h1
          simp
      · simp at e
theorem op1_ok (hty : TyOk P ty) (hcall : CallStep P ty fn cl A) {g : Gh} {tm : List C} {H : List HS} {a : Act} {w : World} {Q : Exit → Act → World → Prop} {all : Array Oper} {i base : Nat} {o : Oper} {c : Cls} {st' : St} {K : Act → World → Prop}
    (ho : all[i]? = some o) (h : Rel ty A g ⟨tm, H⟩ a w) (e : op1 ty fn cl all base o ⟨tm, H⟩ = some (c, st')) (hK : ∀ g' a' w', Rel ty A g' st' a' w' → K a' w') : wpOp P all Q i K a w := by
  rw [op1_eq] at e
  unfold wpOp
  rw [ho]
  dsimp only
  split at e
  · simp at e
  · rename_i hg
    rw [gd_wanted h hg, if_pos rfl]
    cases hs : stepV ty fn cl (none : V3) base o tm H mk3 with
    | none => rw [hs] at e; simp at e
    | some r =>
      rw [hs] at e
      simp only [Option.map_some, Option.some.injEq, Prod.mk.injEq] at e
      obtain ⟨rfl, rfl⟩ := e
      refine .inl (Oper.wp_mono (fun a' w' hp => ?_) (step_ok (Q := Q) hty hcall h (c := r.1) (H' := r.2.1) (v := r.2.2) hs))
      obtain ⟨g', h1, _⟩ := hp
      exact hK g' a' w' h1
  · rename_i hg
    rw [gd_wanted h hg, if_neg (by simp)]
    simp only [Option.some.injEq, Prod.mk.injEq] at e
    obtain ⟨rfl, rfl⟩ := e
    exact hK g _ w (h.put o.dst (c := .tup []) ⟨[], rfl, rfl, fun i a ss u hi => by simp at hi⟩)
theorem putC_getD {tm : List C} {dst : Option Tmp} {v : C} {d : Nat} (h : ∀ x, dst = some x → x ≠ d) : (putC tm dst v).getD d (.one .undef) = tm.getD d (.one .undef) := by
  cases dst with
  | none => rfl
  | some x =>
    simp only [putC, List.getD_eq_getElem?_getD]
    rw [List.getElem?_set_ne (h x rfl)]
theorem putC_comm {tm : List C} {x y : Option Tmp} {u v : C} (h : ∀ d, x = some d → y ≠ some d) : putC (putC tm x u) y v = putC (putC tm y v) x u := by
  cases x with
  | none => rfl
  | some d =>
    cases y with
    | none => rfl
    | some e =>
      have : d ≠ e := fun hde => h d rfl (by rw [hde])
      simp only [putC]
      exact List.set_comm _ _ this
theorem gd_put {all : Array Oper} {o : Oper} {tm : List C} {dst : Option Tmp} {v : C} (h : ∀ d, dst = some d → d ∉ o.looksAt all) : gd all o (putC tm dst v) = gd all o tm := by
  unfold gd
  cases hg : o.guard with
  | none => rfl
  | some jw =>
    obtain ⟨j, want⟩ := jw
    dsimp only
    cases hd : (all[j]?).bind (·.dst) with
    | none => rfl
    | some d =>
      dsimp only
      rw [putC_getD fun x hx hxd => h x hx (by subst hxd; simp [Oper.looksAt, hg, hd])]
theorem opd_put {all : Array Oper} {o : Oper} {tm : List C} {dst : Option Tmp} {v : C} (h : ∀ d, dst = some d → d ∉ o.looksAt all) : ∀ x ∈ o.op.operands, opd (putC tm dst v) x = opd tm x := by
  intro x hx
  cases x with
  | tmp t =>
    simp only [opd]
    exact putC_getD fun d hd hdt => h d hd (by
      subst hdt
      exact List.mem_append_left _ (List.mem_filterMap.2 ⟨.tmp d, by simpa using hx, rfl⟩))
  | _ => rfl
theorem op1_put {all : Array Oper} {base : Nat} {o : Oper} {tm : List C} {H : List HS} {dst : Option Tmp} {u : C} (h : ∀ d, dst = some d → d ∉ o.looksAt all) (h2 : ∀ d, dst = some d → o.dst ≠ some d) {c : Cls} {st' : St} :
    op1 ty fn cl all base o ⟨tm, H⟩ = some (c, st') → op1 ty fn cl all base o ⟨putC tm dst u, H⟩ = some (c, ⟨putC st'.tm dst u, st'.H⟩) := by
  intro e
  rw [op1_eq] at e ⊢
  rw [gd_put h]
  split at e
  · simp at e
  · rename_i hg
    rw [stepV_congr (opd_put h)]
    cases hs : stepV ty fn cl (none : V3) base o tm H mk3 with
    | none => rw [hs] at e; simp at e
    | some r =>
      rw [hs] at e
      simp only [Option.map_some, Option.some.injEq, Prod.mk.injEq] at e ⊢
      obtain ⟨rfl, rfl⟩ := e
      exact ⟨rfl, by rw [putC_comm h2]⟩
  · rename_i hg
    simp only [Option.some.injEq, Prod.mk.injEq] at e ⊢
    obtain ⟨rfl, rfl⟩ := e
    exact ⟨rfl, by rw [putC_comm h2]⟩
theorem op1_unput {all : Array Oper} {base : Nat} {o : Oper} {tm : List C} {H : List HS} {dst : Option Tmp} {u : C} (h : ∀ d, dst = some d → d ∉ o.looksAt all) (h2 : ∀ d, dst = some d → o.dst ≠ some d) {c : Cls} {st' : St}
    (e : op1 ty fn cl all base o ⟨putC tm dst u, H⟩ = some (c, st')) : ∃ st'', op1 ty fn cl all base o ⟨tm, H⟩ = some (c, st'') ∧ st' = ⟨putC st''.tm dst u, st''.H⟩ := by
  cases hk : op1 ty fn cl all base o ⟨tm, H⟩ with
  | none =>
    rw [op1_eq] at e hk
    rw [gd_put h] at e
    split at hk
    · rename_i hg; rw [hg] at e; simp at e
    · rename_i hg
      rw [hg] at e
      dsimp only at e
      rw [stepV_congr (opd_put h)] at e
      simp only [Option.map_eq_none_iff] at hk
      rw [hk] at e
      simp at e
    · simp at hk
  | some r =>
    obtain ⟨c', st''⟩ := r
    have := op1_put (u := u) h h2 hk
    rw [this] at e
    simp only [Option.some.injEq, Prod.mk.injEq] at e
    obtain ⟨rfl, rfl⟩ := e
    exact ⟨st'', rfl, rfl⟩
theorem op1_cls {all : Array Oper} {base : Nat} {o : Oper} {tm : List C} {H : List HS} {c : Cls} {st' : St} (e : op1 ty fn cl all base o ⟨tm, H⟩ = some (c, st')) :
    (∃ v, st'.tm = putC tm o.dst v) ∧ (c = .t → st'.H = H ∧ ∀ H3, op1 ty fn cl all base o ⟨tm, H3⟩ = some (.t, ⟨st'.tm, H3⟩)) ∧ (c = .r → st'.H = H) := by
  rw [op1_eq] at e
  split at e
  · simp at e
  · rename_i hg
    cases hs : stepV ty fn cl (none : V3) base o tm H mk3 with
    | none => rw [hs] at e; simp at e
    | some r =>
      obtain ⟨c', H', v⟩ := r
      rw [hs] at e
      simp only [Option.map_some, Option.some.injEq, Prod.mk.injEq] at e
      obtain ⟨rfl, rfl⟩ := e
      obtain ⟨k1, k2⟩ := stepV_cls H c' H' v hs
      refine ⟨⟨v, rfl⟩, fun hc => ⟨(k1 hc).1, fun H3 => ?_⟩, k2⟩
      rw [op1_eq, hg]
      dsimp only
      have := (k1 hc).2 H3
      dsimp only at this
      rw [this]
      rfl
  · rename_i hg
    simp only [Option.some.injEq, Prod.mk.injEq] at e
    obtain ⟨rfl, rfl⟩ := e
    refine ⟨⟨_, rfl⟩, fun _ => ⟨rfl, fun H3 => ?_⟩, fun h => by simp at h⟩
    rw [op1_eq, hg]
theorem op1_r {all : Array Oper} {base b : Nat} {o : Oper} {tm : List C} {H : List HS} {hs : HS} {st' : St} (hb : getH H b = .free) (e : op1 ty fn cl all base o ⟨tm, H⟩ = some (.r, st')) : op1 ty fn cl all base o ⟨tm, setH H b hs⟩ = some (.r, ⟨st'.tm, setH H b hs⟩) := by
  rw [op1_eq] at e ⊢
  split at e
  · simp at e
  · rename_i hg
    cases hs : stepV ty fn cl (none : V3) base o tm H mk3 with
    | none => rw [hs] at e; simp at e
    | some r =>
      obtain ⟨c', H', v⟩ := r
      rw [hs] at e
      simp only [Option.map_some, Option.some.injEq, Prod.mk.injEq] at e
      obtain ⟨rfl, rfl⟩ := e
      rw [stepV_r hb hs]
      rfl
  · simp only [Option.some.injEq, Prod.mk.injEq] at e
    simp at e
theorem op1_n {all : Array Oper} {base : Nat} {o : Oper} {tm : List C} {H : List HS} {st' : St} (e : op1 ty fn cl all base o ⟨tm, H⟩ = some (.n, st')) :
    getH H base = .free ∧ ∃ ob, st'.H = setH H base (.live ob) ∧ ∀ H3, getH H3 base = .free → op1 ty fn cl all base o ⟨tm, H3⟩ = some (.n, ⟨st'.tm, setH H3 base (.live ob)⟩) := by
  rw [op1_eq] at e
  split at e
  · simp at e
  · rename_i hg
    cases hs : stepV ty fn cl (none : V3) base o tm H mk3 with
    | none => rw [hs] at e; simp at e
    | some r =>
      obtain ⟨c', H', v⟩ := r
      rw [hs] at e
      simp only [Option.map_some, Option.some.injEq, Prod.mk.injEq] at e
      obtain ⟨rfl, rfl⟩ := e
      obtain ⟨h1, ob, h2, h3⟩ := stepV_n hs
      refine ⟨h1, ob, h2, fun H3 hf => ?_⟩
      rw [op1_eq, hg]
      dsimp only
      rw [h3 H3 hf]
      rfl
  · simp only [Option.some.injEq, Prod.mk.injEq] at e
    simp at e
theorem op1_rv {all : Array Oper} {base id : Nat} {o : Oper} {tm : List C} {H : List HS} {st' : St} (e : op1 ty fn cl all base o ⟨tm, H⟩ = some (.rv id, st')) :
    st'.H = H ∧ (∃ ob, getH H id = .live ob) ∧ ∀ H3, getH H3 id = getH H id → op1 ty fn cl all base o ⟨tm, H3⟩ = some (.rv id, ⟨st'.tm, H3⟩) := by
  rw [op1_eq] at e
  split at e
  · simp at e
  · rename_i hg
    cases hs : stepV ty fn cl (none : V3) base o tm H mk3 with
    | none => rw [hs] at e; simp at e
    | some r =>
      obtain ⟨c', H', v⟩ := r
      rw [hs] at e
      simp only [Option.map_some, Option.some.injEq, Prod.mk.injEq] at e
      obtain ⟨rfl, rfl⟩ := e
      obtain ⟨h1, h2, h3⟩ := stepV_rv hs
      refine ⟨h1, h2, fun H3 hf => ?_⟩
      rw [op1_eq, hg]
      dsimp only
      rw [h3 H3 hf]
      rfl
  · simp only [Option.some.injEq, Prod.mk.injEq] at e
    simp at e
theorem op1_st {all : Array Oper} {base id : Nat} {o : Oper} {tm : List C} {H : List HS} {st' : St} (e : op1 ty fn cl all base o ⟨tm, H⟩ = some (.st id, st')) :
    ∃ x, st'.H = setH H id x ∧ ∀ H3, getH H3 id = getH H id → op1 ty fn cl all base o ⟨tm, H3⟩ = some (.st id, ⟨st'.tm, setH H3 id x⟩) := by
  rw [op1_eq] at e
  split at e
  · simp at e
  · rename_i hg
    cases hs : stepV ty fn cl (none : V3) base o tm H mk3 with
    | none => rw [hs] at e; simp at e
    | some r =>
      obtain ⟨c', H', v⟩ := r
      rw [hs] at e
      simp only [Option.map_some, Option.some.injEq, Prod.mk.injEq] at e
      obtain ⟨rfl, rfl⟩ := e
      obtain ⟨x, h1, h3⟩ := stepV_st hs
      refine ⟨x, h1, fun H3 hf => ?_⟩
      rw [op1_eq, hg]
      dsimp only
      rw [h3 H3 hf]
      rfl
  · simp only [Option.some.injEq, Prod.mk.injEq] at e
    simp at e
theorem op1_wl {all : Array Oper} {base : Nat} {o : Oper} {tm : List C} {H : List HS} {st' : St} {l : List Nat} (e : op1 ty fn cl all base o ⟨tm, H⟩ = some (.wl l, st')) : ∀ j, j ∉ l → getH st'.H j = getH H j := by
  rw [op1_eq] at e
  split at e
  · simp at e
  · rename_i hg
    cases hs : stepV ty fn cl (none : V3) base o tm H mk3 with
    | none => rw [hs] at e; simp at e
    | some r =>
      obtain ⟨c', H', v⟩ := r
      rw [hs] at e
      simp only [Option.map_some, Option.some.injEq, Prod.mk.injEq] at e
      obtain ⟨rfl, rfl⟩ := e
      exact stepV_wl hs
  · simp only [Option.some.injEq, Prod.mk.injEq] at e
    simp at e
theorem op1_wl_loc {all : Array Oper} {base : Nat} {o : Oper} {tm : List C} {H : List HS} {st' : St} {l : List Nat} {j : Nat} {x : HS} (hj : j ∉ l) (e : op1 ty fn cl all base o ⟨tm, H⟩ = some (.wl l, st')) : op1 ty fn cl all base o ⟨tm, setH H j x⟩ = some (.wl l, ⟨st'.tm, setH st'.H j x⟩) := by
  rw [op1_eq] at e ⊢
  split at e
  · simp at e
  · rename_i hg
    cases hs : stepV ty fn cl (none : V3) base o tm H mk3 with
    | none => rw [hs] at e; simp at e
    | some r =>
      obtain ⟨c', H', v⟩ := r
      rw [hs] at e
      simp only [Option.map_some, Option.some.injEq, Prod.mk.injEq] at e
      obtain ⟨rfl, rfl⟩ := e
      rw [stepV_wl_loc hj hs]
      rfl
  · simp only [Option.some.injEq, Prod.mk.injEq] at e
    simp at e
theorem op1_nb {all : Array Oper} {base i : Nat} {o : Oper} {tm : List C} {H : List HS} {st' : St} (e : op1 ty fn cl all base o ⟨tm, H⟩ = some (.nb i, st')) :
    i = base ∧ getH H base = .free ∧ ∃ ob, st'.H = setH H base (.live ob) ∧ ∀ H3, getH H3 base = .free → op1 ty fn cl all base o ⟨tm, H3⟩ = some (.nb i, ⟨st'.tm, setH H3 base (.live ob)⟩) := by
  rw [op1_eq] at e
  split at e
  · simp at e
  · rename_i hg
    cases hs : stepV ty fn cl (none : V3) base o tm H mk3 with
    | none => rw [hs] at e; simp at e
    | some r =>
      obtain ⟨c', H', v⟩ := r
      rw [hs] at e
      simp only [Option.map_some, Option.some.injEq, Prod.mk.injEq] at e
      obtain ⟨rfl, rfl⟩ := e
      obtain ⟨h0, h1, ob, h2, h3⟩ := stepV_nb hs
      refine ⟨h0, h1, ob, h2, fun H3 hf => ?_⟩
      rw [op1_eq, hg]
      dsimp only
      rw [h3 H3 hf]
      rfl
  · simp only [Option.some.injEq, Prod.mk.injEq] at e
    simp at e
theorem setH_getH {H : List HS} {b : Nat} {x : HS} (h : getH H b = x) : setH H b x = H := by
  subst h
  simp only [setH, getH]
  apply List.ext_getElem?
  intro i
  rw [List.getElem?_set]
  split
  · rename_i hi
    subst hi
    split
    · rename_i hl
      rw [List.getD_eq_getElem?_getD, List.getElem?_eq_getElem hl]
      rfl
    · rename_i hl
      rw [List.getElem?_eq_none (by omega)]
  · rfl
theorem setH_setH {H : List HS} {b : Nat} {x y : HS} : setH (setH H b x) b y = setH H b y := by
  simp only [setH, List.set_set]
theorem notMem_of_any {j : Nat} {l : List Nat} (h : (!(l.any (Nat.beq j))) = true) : j ∉ l := by
  intro hm
  rw [Bool.not_eq_true', List.any_eq_false] at h
  exact h j hm (Nat.beq_refl j)
theorem op1_swap {all : Array Oper} {b1 b2 : Nat} {x y : Oper} {st st1 st2 : St} {c1 c2 : Cls} (e1 : op1 ty fn cl all b1 x st = some (c1, st1)) (e2 : op1 ty fn cl all b2 y st1 = some (c2, st2)) (hf : Cls.free c1 c2 = true)
    (ha : Oper.apart all x y = true) : ∃ st3, op1 ty fn cl all b2 y st = some (c2, st3) ∧ op1 ty fn cl all b1 x st3 = some (c1, st2) := by
  obtain ⟨a1, a2, a3⟩ := Oper.apart_spec ha
  have a2' : ∀ d, y.dst = some d → x.dst ≠ some d := fun d h1 h2 => a2 d h2 h1
  obtain ⟨tm, H⟩ := st
  obtain ⟨tm1, H1⟩ := st1
  obtain ⟨⟨v, hv⟩, t1, r1⟩ := op1_cls e1
  simp only at hv t1 r1
  subst hv
  obtain ⟨⟨tm3, H3⟩, k1, k2⟩ := op1_unput a1 a2 e2
  subst k2
  obtain ⟨⟨u, hu⟩, t2, r2⟩ := op1_cls k1
  simp only at hu t2 r2 ⊢
  subst hu
  have fin : ∀ HH, op1 ty fn cl all b2 y ⟨tm, H⟩ = some (c2, ⟨putC tm y.dst u, HH⟩) → op1 ty fn cl all b1 x ⟨tm, HH⟩ = some (c1, ⟨putC tm x.dst v, H3⟩) →
      ∃ st3, op1 ty fn cl all b2 y ⟨tm, H⟩ = some (c2, st3) ∧ op1 ty fn cl all b1 x st3 = some (c1, ⟨putC (putC tm y.dst u) x.dst v, H3⟩) := by
    intro HH h1 h2
    refine ⟨_, h1, ?_⟩
    have := op1_put (u := u) a3 a2' h2
    rw [this, putC_comm a2']
  cases c1 with
  | t =>
    obtain ⟨rfl, t1'⟩ := t1 rfl
    exact fin H3 k1 (t1' H3)
  | r =>
    obtain rfl := r1 rfl
    cases c2 with
    | t =>
      obtain ⟨rfl, t2⟩ := t2 rfl
      exact fin _ k1 e1
    | r =>
      obtain rfl := r2 rfl
      exact fin _ k1 e1
    | rv j =>
      obtain ⟨rfl, _⟩ := op1_rv k1
      exact fin _ k1 e1
    | n =>
      obtain ⟨n1, ob, n2, n3⟩ := op1_n k1
      dsimp only at n2
      subst n2
      exact fin _ k1 (op1_r (hs := .live ob) n1 e1)
    | w => simp [Cls.free] at hf
    | wl l => simp [Cls.free] at hf
    | nb l =>
      obtain ⟨n0, n1, ob, n2, n3⟩ := op1_nb k1
      dsimp only at n2
      subst n2
      exact fin _ k1 (op1_r (hs := .live ob) n1 e1)
    | st j => simp [Cls.free] at hf
  | w =>
    cases c2 with
    | t =>
      obtain ⟨rfl, t2'⟩ := t2 rfl
      exact fin H (t2' H) e1
    | _ => simp [Cls.free] at hf
  | n =>
    obtain ⟨m1, ob1, m2, m3⟩ := op1_n e1
    dsimp only at m2
    subst m2
    cases c2 with
    | t =>
      obtain ⟨rfl, t2'⟩ := t2 rfl
      exact fin H (t2' H) e1
    | n =>
      obtain ⟨n1, ob2, n2, n3⟩ := op1_n k1
      dsimp only at n2
      subst n2
      have hne : b1 ≠ b2 := by
        intro h
        subst h
        rw [getH_set_self m1] at n1
        simp at n1
      have f2 : getH H b2 = .free := by rw [getH_set_ne _ hne] at n1; exact n1
      have f1 : getH (setH H b2 (.live ob2)) b1 = .free := by rw [getH_set_ne _ (fun h => hne h.symm)]; exact m1
      have := m3 _ f1
      refine fin (setH H b2 (.live ob2)) (n3 H f2) ?_
      rw [this]
      simp only [setH]
      rw [List.set_comm _ _ hne]
    | _ => simp [Cls.free] at hf
  | rv i =>
    obtain ⟨h1, ⟨ob, hob⟩, h3⟩ := op1_rv e1
    dsimp only at h1
    subst h1
    cases c2 with
    | t =>
      obtain ⟨rfl, _⟩ := t2 rfl
      exact fin _ k1 e1
    | r =>
      obtain rfl := r2 rfl
      exact fin _ k1 e1
    | rv j =>
      obtain ⟨rfl, _⟩ := op1_rv k1
      exact fin _ k1 e1
    | n =>
      obtain ⟨n1, ob2, n2, n3⟩ := op1_n k1
      dsimp only at n2
      subst n2
      have hne : b2 ≠ i := by
        intro h
        subst h
        rw [hob] at n1
        simp at n1
      exact fin _ k1 (h3 _ (getH_set_ne _ hne))
    | st j =>
      obtain ⟨z, z1, z2⟩ := op1_st k1
      dsimp only at z1
      subst z1
      have hne : j ≠ i := by
        intro h
        subst h
        simp [Cls.free] at hf
      exact fin _ k1 (h3 _ (getH_set_ne _ hne))
    | w => simp [Cls.free] at hf
    | wl l => exact fin _ k1 (h3 _ (op1_wl k1 i (notMem_of_any hf)))
    | nb j =>
      obtain ⟨rfl, n1, ob2, n2, n3⟩ := op1_nb k1
      dsimp only at n2
      subst n2
      have hne : j ≠ i := by
        intro h
        subst h
        simp [Cls.free] at hf
      exact fin _ k1 (h3 _ (getH_set_ne _ hne))
  | wl l =>
    have w1 := op1_wl e1
    dsimp only at w1
    cases c2 with
    | t =>
      obtain ⟨rfl, t2'⟩ := t2 rfl
      exact fin H (t2' H) e1
    | rv j =>
      obtain ⟨h1, _, h3⟩ := op1_rv k1
      dsimp only at h1
      subst h1
      exact fin H (h3 H (w1 j (notMem_of_any hf)).symm) e1
    | nb j =>
      obtain ⟨rfl, n1, ob2, n2, n3⟩ := op1_nb k1
      dsimp only at n2
      subst n2
      have hm := notMem_of_any hf
      exact fin (setH H j (.live ob2)) (n3 H ((w1 j hm).symm.trans n1)) (op1_wl_loc hm e1)
    | _ => simp [Cls.free] at hf
  | nb i =>
    obtain ⟨rfl, m1, ob1, m2, m3⟩ := op1_nb e1
    dsimp only at m2
    subst m2
    cases c2 with
    | t =>
      obtain ⟨rfl, t2'⟩ := t2 rfl
      exact fin H (t2' H) e1
    | rv j =>
      obtain ⟨h1, _, h3⟩ := op1_rv k1
      dsimp only at h1
      subst h1
      have hne : i ≠ j := by
        intro h
        subst h
        simp [Cls.free] at hf
      exact fin H (h3 H (getH_set_ne _ hne).symm) e1
    | nb j =>
      obtain ⟨rfl, n1, ob2, n2, n3⟩ := op1_nb k1
      dsimp only at n2
      subst n2
      have hne : i ≠ j := by
        intro h
        subst h
        simp [Cls.free] at hf
      have f2 : getH H j = .free := by rw [getH_set_ne _ hne] at n1; exact n1
      have f1 : getH (setH H j (.live ob2)) i = .free := by rw [getH_set_ne _ (fun h => hne h.symm)]; exact m1
      have := m3 _ f1
      refine fin (setH H j (.live ob2)) (n3 H f2) ?_
      rw [this, setH_comm hne]
    | wl l =>
      have hm := notMem_of_any hf
      have hk := op1_wl_loc (x := getH H i) hm k1
      have hw := op1_wl k1 i hm
      dsimp only at hk hw
      rw [setH_setH, setH_getH rfl] at hk
      refine fin _ hk ?_
      have h3 : getH H3 i = .live ob1 := hw.trans (getH_set_self m1)
      have hlt : i < H3.length := by
        rcases Nat.lt_or_ge i H3.length with h | h
        · exact h
        · simp only [getH, List.getD_eq_getElem?_getD] at h3
          rw [List.getElem?_eq_none h] at h3
          simp at h3
      have f1 : getH (setH H3 i (getH H i)) i = .free := (getH_set_same _ hlt).trans m1
      rw [m3 _ f1, setH_setH, setH_getH h3]
    | _ => simp [Cls.free] at hf
  | st i =>
    obtain ⟨z, z1, z2⟩ := op1_st e1
    dsimp only at z1
    subst z1
    cases c2 with
    | t =>
      obtain ⟨rfl, t2'⟩ := t2 rfl
      exact fin H (t2' H) e1
    | rv j =>
      obtain ⟨h1, _, h3⟩ := op1_rv k1
      dsimp only at h1
      subst h1
      have hne : i ≠ j := by
        intro h
        subst h
        simp [Cls.free] at hf
      exact fin H (h3 H (getH_set_ne _ hne).symm) e1
    | st j =>
      obtain ⟨y0, y1, y2⟩ := op1_st k1
      dsimp only at y1
      subst y1
      have hne : i ≠ j := by
        intro h
        subst h
        simp [Cls.free] at hf
      refine fin (setH H j y0) (y2 H (getH_set_ne _ hne).symm) ?_
      rw [z2 _ (getH_set_ne _ (fun h => hne h.symm))]
      simp only [setH]
      rw [List.set_comm _ _ hne]
    | _ => simp [Cls.free] at hf
end
section
variable {P : Program} {ty : Nat → Option TI} {fn : Nat → Option FI} {cl : Nat → Hint → List DC → Out} {A : An}
def runN (ty : Nat → Option TI) (fn : Nat → Option FI) (cl : Nat → Hint → List DC → Out) (ops : Array Oper) (ids : List Nat) : List Nat → St → Option (List Cls × St)
  | [], st => some ([], st)
  | i :: L, st =>
    match ops[i]? with
    | none => none
    | some o =>
      match op1 ty fn cl ops (ids.getD i 0) o st with
      | none => none
      | some (c, st1) =>
        match runN ty fn cl ops ids L st1 with
        | none => none
        | some (cs, st2) => some (c :: cs, st2)
theorem runR_run {ρ : Type} {fail : ρ} {ops : Array Oper} {ids : List Nat} {K : List Cls → St → ρ} : ∀ (m n : Nat) (acc : List Cls) (st : St), n + m = ops.size →
    runR ty fn cl fail ops (zipI (ops.toList.drop n) (ids.drop n)) acc st K = via fail (runN ty fn cl ops ids (List.range' n m) st) fun r => K (acc.reverse ++ r.1) r.2
  | 0, n, acc, st, h => by
    have : ops.toList.drop n = [] := List.drop_of_length_le (by simp; omega)
    simp [this, zipI, runR, runN, via]
  | m + 1, n, acc, st, h => by
    have hn : n < ops.size := by omega
    have hd : ops.toList.drop n = ops[n] :: ops.toList.drop (n + 1) := by
      rw [List.drop_eq_getElem_cons (by simpa using hn)]
      simp
    have hh : (ids.drop n).headD 0 = ids.getD n 0 := by
      rw [List.headD_eq_head?_getD, List.head?_drop, List.getD_eq_getElem?_getD]
    have hdd : (ids.drop n).drop 1 = ids.drop (n + 1) := by rw [List.drop_drop]
    rw [hd, zipI, runR, opR_par, List.range'_succ, runN, Array.getElem?_eq_getElem hn, hh, hdd]
    dsimp only
    cases h1 : op1 ty fn cl ops (ids.getD n 0) ops[n] st with
    | none => rfl
    | some r =>
      obtain ⟨c, st1⟩ := r
      simp only [via]
      rw [runR_run m (n + 1) (c :: acc) st1 (by omega)]
      cases h2 : runN ty fn cl ops ids (List.range' (n + 1) m) st1 with
      | none => rfl
      | some r => simp [via]
theorem runR_take {ρ : Type} {fail : ρ} {ops : Array Oper} {ids : List Nat} {K : List Cls → St → ρ} : ∀ (m n : Nat) (acc : List Cls) (st : St), n + m ≤ ops.size →
    runR ty fn cl fail ops ((zipI (ops.toList.drop n) (ids.drop n)).take m) acc st K = via fail (runN ty fn cl ops ids (List.range' n m) st) fun r => K (acc.reverse ++ r.1) r.2
  | 0, n, acc, st, h => by
    simp [runR, runN, via]
  | m + 1, n, acc, st, h => by
    have hn : n < ops.size := by omega
    have hd : ops.toList.drop n = ops[n] :: ops.toList.drop (n + 1) := by
      rw [List.drop_eq_getElem_cons (by simpa using hn)]
      simp
    have hh : (ids.drop n).headD 0 = ids.getD n 0 := by
      rw [List.headD_eq_head?_getD, List.head?_drop, List.getD_eq_getElem?_getD]
    have hdd : (ids.drop n).drop 1 = ids.drop (n + 1) := by rw [List.drop_drop]
    rw [hd, zipI, List.take_succ_cons, runR, opR_par, List.range'_succ, runN, Array.getElem?_eq_getElem hn, hh, hdd]
    dsimp only
    cases h1 : op1 ty fn cl ops (ids.getD n 0) ops[n] st with
    | none => rfl
    | some r =>
      obtain ⟨c, st1⟩ := r
      simp only [via]
      rw [runR_take m (n + 1) (c :: acc) st1 (by omega)]
      cases h2 : runN ty fn cl ops ids (List.range' (n + 1) m) st1 with
      | none => rfl
      | some r => simp [via]
theorem zipI_length : ∀ (l : List Oper) (ids : List Nat), (zipI l ids).length = l.length
  | [], _ => rfl
  | o :: l, ids => by simp [zipI, zipI_length l]
theorem zipI_drop : ∀ (k : Nat) (l : List Oper) (ids : List Nat), (zipI l ids).drop k = zipI (l.drop k) (ids.drop k)
  | 0, _, _ => rfl
  | k + 1, [], ids => by simp [zipI]
  | k + 1, o :: l, ids => by
    rw [zipI, List.drop_succ_cons, zipI_drop k, List.drop_succ_cons, List.drop_drop, Nat.add_comm 1 k]
theorem runR_some {ρ : Type} {fail : ρ} {ops : Array Oper} {ids : List Nat} {K : List Cls → St → ρ} {st : St} {x : ρ} (e : runR ty fn cl fail ops (zipI ops.toList ids) [] st K = x) :
    x = fail ∨ ∃ cs st', runN ty fn cl ops ids (List.range ops.size) st = some (cs, st') ∧ K cs st' = x := by
  have := runR_run (ty := ty) (fn := fn) (cl := cl) (fail := fail) (ops := ops) (ids := ids) (K := K) ops.size 0 [] st (by simp)
  rw [List.drop_zero, List.drop_zero] at this
  rw [this, ← List.range_eq_range'] at e
  cases h : runN ty fn cl ops ids (List.range ops.size) st with
  | none => rw [h] at e; exact .inl e.symm
  | some r =>
    rw [h] at e
    exact .inr ⟨r.1, r.2, rfl, by simpa [via] using e⟩
theorem run_ops (hty : TyOk P ty) (hcall : CallStep P ty fn cl A) {ops : Array Oper} {ids : List Nat} {Q : Exit → Act → World → Prop} : ∀ {L : List Nat} {st st' : St} {cs : List Cls} {g : Gh} {a : Act} {w : World},
    runN ty fn cl ops ids L st = some (cs, st') → Rel ty A g st a w → (∀ g' a' w', Rel ty A g' st' a' w' → Q .normal a' w') → wpOps P ops Q L a w
  | [], st, st', cs, g, a, w, e, h, hQ => by
    simp only [runN, Option.some.injEq, Prod.mk.injEq] at e
    obtain ⟨_, rfl⟩ := e
    exact hQ g a w h
  | i :: L, st, st', cs, g, a, w, e, h, hQ => by
    rw [wpOps_cons]
    rw [runN] at e
    split at e
    · simp at e
    · rename_i o ho
      split at e
      · simp at e
      · rename_i c st1 h1
        split at e
        · simp at e
        · rename_i cs2 st2 h2
          simp only [Option.some.injEq, Prod.mk.injEq] at e
          obtain ⟨_, rfl⟩ := e
          obtain ⟨tm, H⟩ := st
          exact op1_ok hty hcall ho h h1 fun g' a' w' hr => run_ops hty hcall h2 hr hQ
theorem run_ops_more (hty : TyOk P ty) (hcall : CallStep P ty fn cl A) {ops : Array Oper} {ids : List Nat} {Q : Exit → Act → World → Prop} {R : List Nat} : ∀ {L : List Nat} {st st' : St} {cs : List Cls} {g : Gh} {a : Act} {w : World},
    runN ty fn cl ops ids L st = some (cs, st') → Rel ty A g st a w → (∀ g' a' w', Rel ty A g' st' a' w' → wpOps P ops Q R a' w') → wpOps P ops Q (L ++ R) a w
  | [], st, st', cs, g, a, w, e, h, hQ => by
    simp only [runN, Option.some.injEq, Prod.mk.injEq] at e
    obtain ⟨_, rfl⟩ := e
    exact hQ g a w h
  | i :: L, st, st', cs, g, a, w, e, h, hQ => by
    rw [List.cons_append, wpOps_cons]
    rw [runN] at e
    split at e
    · simp at e
    · rename_i o ho
      split at e
      · simp at e
      · rename_i c st1 h1
        split at e
        · simp at e
        · rename_i cs2 st2 h2
          simp only [Option.some.injEq, Prod.mk.injEq] at e
          obtain ⟨_, rfl⟩ := e
          obtain ⟨tm, H⟩ := st
          exact op1_ok hty hcall ho h h1 fun g' a' w' hr => run_ops_more hty hcall h2 hr hQ
theorem run_front {ops : Array Oper} {ids : List Nat} {i : Nat} {o : Oper} (ho : ops[i]? = some o) {cls : Nat → Cls} : ∀ {R1 R2 : List Nat} {st st' : St}, runN ty fn cl ops ids (R1 ++ i :: R2) st = some ((R1 ++ i :: R2).map cls, st') →
    (∀ k ∈ R1, Cls.free (cls k) (cls i) = true ∧ ∀ x, ops[k]? = some x → Oper.apart ops x o = true) →
    ∃ st1, op1 ty fn cl ops (ids.getD i 0) o st = some (cls i, st1) ∧ runN ty fn cl ops ids (R1 ++ R2) st1 = some ((R1 ++ R2).map cls, st')
  | [], R2, st, st', e, _ => by
    rw [List.nil_append, runN, ho] at e
    dsimp only at e
    split at e
    · simp at e
    · rename_i c st1 h1
      split at e
      · simp at e
      · rename_i cs st2 h2
        simp only [List.map_cons, Option.some.injEq, Prod.mk.injEq, List.cons.injEq] at e
        obtain ⟨⟨rfl, rfl⟩, rfl⟩ := e
        exact ⟨st1, h1, h2⟩
  | k :: R1, R2, st, st', e, hk => by
    rw [List.cons_append, runN] at e
    split at e
    · simp at e
    · rename_i x hx
      split at e
      · simp at e
      · rename_i c st1 h1
        split at e
        · simp at e
        · rename_i cs st2 h2
          simp only [List.map_cons, Option.some.injEq, Prod.mk.injEq, List.cons.injEq] at e
          obtain ⟨⟨rfl, rfl⟩, rfl⟩ := e
          obtain ⟨st3, k1, k2⟩ := run_front ho h2 fun j hj => hk j (by simp [hj])
          obtain ⟨q1, q2⟩ := hk k (by simp)
          obtain ⟨st4, p1, p2⟩ := op1_swap h1 k1 q1 (q2 x hx)
          refine ⟨st4, p1, ?_⟩
          rw [List.cons_append, runN, hx]
          dsimp only
          rw [p2]
          dsimp only
          rw [k2]
          rfl
def Closed (ops : Array Oper) (L : Nat → Prop) : Prop := ∀ (j : Nat) (o : Oper), ops[j]? = some o → L j → ∀ e ∈ o.after, Region.binds .any e = true → L e.on
theorem bits_inner (L : Nat → Prop) (acc : Array Nat) (hacc : ∀ n, L n → ∀ k, (acc.getD n 0).testBit k = true → L k) : ∀ (l : List Edge) (s : Nat), (∀ e ∈ l, Region.binds .any e = true → L e.on) → (∀ k, s.testBit k = true → L k) →
    ∀ k, (l.foldl (fun s e => if Region.binds .any e then s ||| 2 ^ e.on ||| acc.getD e.on 0 else s) s).testBit k = true → L k
  | [], s, _, hs => hs
  | e :: l, s, he, hs => by
    rw [List.foldl_cons]
    refine bits_inner L acc hacc l _ (fun e' h => he e' (by simp [h])) fun k hk => ?_
    split at hk
    · rename_i hb
      rw [Nat.testBit_or, Nat.testBit_or, Bool.or_eq_true, Bool.or_eq_true] at hk
      have hL := he e (by simp) hb
      rcases hk with (hk | hk) | hk
      · exact hs k hk
      · rw [Nat.testBit_two_pow] at hk
        simp only [decide_eq_true_eq] at hk
        rw [← hk]
        exact hL
      · exact hacc e.on hL k hk
    · exact hs k hk
theorem before_go {ops : Array Oper} {L : Nat → Prop} (hc : Closed ops L) : ∀ (l2 l1 : List Oper) (acc : Array Nat), ops.toList = l1 ++ l2 → acc.size = l1.length →
    (∀ (j : Nat) (o : Oper), l1[j]? = some o → (∀ e ∈ o.after, Region.binds .any e = true → L e.on) → ∀ k, (acc.getD j 0).testBit k = true → L k) →
    ∀ (j : Nat) (o : Oper), ops[j]? = some o → (∀ e ∈ o.after, Region.binds .any e = true → L e.on) →
      ∀ k, ((l2.foldl (fun acc o => acc.push (o.after.foldl (fun s e => if Region.binds .any e then s ||| 2 ^ e.on ||| acc.getD e.on 0 else s) 0)) acc).getD j 0).testBit k = true → L k
  | [], l1, acc, hl, hs, hinv => by
    intro j o ho he k hk
    rw [List.append_nil] at hl
    exact hinv j o (by rw [← hl]; simpa using ho) he k hk
  | x :: l2, l1, acc, hl, hs, hinv => by
    rw [List.foldl_cons]
    refine before_go hc l2 (l1 ++ [x]) _ (by simp [hl]) (by simp [hs]) fun j o ho he k hk => ?_
    have hacc : ∀ n, L n → ∀ k, (acc.getD n 0).testBit k = true → L k := by
      intro n hn k hk
      by_cases hlt : n < l1.length
      · have h1 : ops[n]? = some l1[n] := by
          have h0 : ops.toList[n]? = some l1[n] := by rw [hl, List.getElem?_append_left hlt, List.getElem?_eq_getElem hlt]
          simpa using h0
        exact hinv n _ (List.getElem?_eq_getElem hlt) (hc n _ h1 hn) k hk
      · rw [Array.getD_eq_getD_getElem?, Array.getElem?_eq_none (by omega)] at hk
        simp at hk
    by_cases hj : j < l1.length
    · rw [List.getElem?_append_left hj] at ho
      refine hinv j o ho he k ?_
      rw [Array.getD_eq_getD_getElem?, Array.getElem?_push, if_neg (by omega)] at hk
      rw [Array.getD_eq_getD_getElem?]
      exact hk
    · rw [List.getElem?_append_right (by omega)] at ho
      have hj' : j = acc.size := by
        rcases Nat.lt_or_ge 0 (j - l1.length) with h' | h'
        · rw [List.getElem?_eq_none (by simp; omega)] at ho; simp at ho
        · omega
      have hx : x = o := by
        rw [hj', hs, Nat.sub_self] at ho
        simpa using ho
      subst hx
      rw [Array.getD_eq_getD_getElem?, Array.getElem?_push, if_pos hj', Option.getD_some, ← Array.foldl_toList] at hk
      exact bits_inner L acc hacc x.after.toList 0 (fun e hm => he e (by simpa using hm)) (fun k hk => by simp at hk) k hk
theorem before_ok {ops : Array Oper} {L : Nat → Prop} (hc : Closed ops L) {j : Nat} {o : Oper} (ho : ops[j]? = some o) (he : ∀ e ∈ o.after, Region.binds .any e = true → L e.on) {k : Nat} (hk : ((Region.before ops).getD j 0).testBit k = true) : L k := by
  unfold Region.before at hk
  rw [← Array.foldl_toList] at hk
  exact before_go hc ops.toList [] #[] (by simp) rfl (fun j o h => by simp at h) j o ho he k hk
theorem run_any (hty : TyOk P ty) (hcall : CallStep P ty fn cl A) {ops : Array Oper} {ids : List Nat} {Q : Exit → Act → World → Prop} {cls : Nat → Cls}
    (hb : ∀ j x, ops[j]? = some x → ∀ e ∈ x.after, Region.binds .any e = true → e.on < j)
    (hd : ∀ i j x y, i < j → ops[i]? = some x → ops[j]? = some y → ((Region.before ops).getD j 0).testBit i = true ∨ (Cls.free (cls i) (cls j) = true ∧ Oper.apart ops x y = true)) :
    ∀ (fuel : Nat) (listed : Array Bool) (R : List Nat) {st st' : St} {g : Gh} {a : Act} {w : World}, listed.size = ops.size → R = (List.range ops.size).filter (fun i => !listed.getD i true) → R.length ≤ fuel →
    Closed ops (fun i => listed.getD i false = true) → runN ty fn cl ops ids R st = some (R.map cls, st') → Rel ty A g st a w → (∀ g' a' w', Rel ty A g' st' a' w' → Q .normal a' w') → wpAny P .any ops Q fuel listed a w := by
  have ready_mem : ∀ (listed : Array Bool) i, i ∈ Region.ready .any ops listed → i < ops.size ∧ listed.getD i true = false ∧ ∃ o, ops[i]? = some o ∧ ∀ e ∈ o.after, Region.binds .any e = true → listed.getD e.on false = true := by
    intro listed i hi
    simp only [Region.ready, List.mem_filter, List.mem_range, Bool.and_eq_true, Bool.not_eq_true'] at hi
    obtain ⟨h1, h2, h3⟩ := hi
    refine ⟨h1, h2, ops[i], Array.getElem?_eq_getElem h1, fun e he hb => ?_⟩
    rw [Array.getElem?_eq_getElem h1] at h3
    simp only [Option.map_some, Option.getD_some] at h3
    have := Array.all_eq_true_iff_forall_mem.1 h3 e he
    simpa [hb] using this
  have setg : ∀ (listed : Array Bool) (i k : Nat) (d : Bool), listed.size = ops.size → i < ops.size → (listed.setIfInBounds i true).getD k d = if i = k then true else listed.getD k d := by
    intro listed i k d hs hi
    rw [Array.getD_eq_getD_getElem?, Array.getElem?_setIfInBounds, Array.getD_eq_getD_getElem?]
    split
    · rw [if_pos (by omega)]; rfl
    · rfl
  intro fuel
  induction fuel with
  | zero =>
    intro listed R st st' g a w hs hR hlen hc e h hQ
    have hR0 : R = [] := List.eq_nil_of_length_eq_zero (by omega)
    rw [hR0] at e
    simp only [runN, List.map_nil, Option.some.injEq, Prod.mk.injEq] at e
    obtain ⟨_, rfl⟩ := e
    refine ⟨?_, hQ g a w h⟩
    cases hr : Region.ready .any ops listed with
    | nil => rfl
    | cons i l =>
      obtain ⟨h1, h2, _⟩ := ready_mem listed i (by rw [hr]; simp)
      have : i ∈ R := by
        rw [hR, List.mem_filter, List.mem_range]
        exact ⟨h1, by rw [h2]; rfl⟩
      rw [hR0] at this
      simp at this
  | succ fuel ih =>
    intro listed R st st' g a w hs hR hlen hc e h hQ
    refine ⟨fun hr => ?_, fun i hi => ?_⟩
    · have hR0 : R = [] := by
        cases hRc : R with
        | nil => rfl
        | cons i l =>
          exfalso
          have hmem : i ∈ R := by rw [hRc]; simp
          rw [hR, List.mem_filter, List.mem_range] at hmem
          have hlt := hmem.1
          have hmin : ∀ k, k < i → listed.getD k true = true := by
            intro k hk
            cases hg : listed.getD k true with
            | true => rfl
            | false =>
              exfalso
              have hkR : k ∈ R := by rw [hR, List.mem_filter, List.mem_range]; exact ⟨by omega, by rw [hg]; rfl⟩
              have hsort : R.Pairwise (· < ·) := by rw [hR]; exact List.Pairwise.filter _ List.pairwise_lt_range
              rw [hRc] at hkR hsort
              rcases List.mem_cons.1 hkR with rfl | hkl
              · omega
              · have := (List.pairwise_cons.1 hsort).1 k hkl
                omega
          have : i ∈ Region.ready .any ops listed := by
            simp only [Region.ready, List.mem_filter, List.mem_range, Bool.and_eq_true, Bool.not_eq_true']
            refine ⟨hlt, by have := hmem.2; rw [Bool.not_eq_true'] at this; exact this, ?_⟩
            rw [Array.getElem?_eq_getElem hlt]
            simp only [Option.map_some, Option.getD_some]
            rw [Array.all_eq_true_iff_forall_mem]
            intro ed hed
            cases hbd : Region.binds .any ed with
            | false => rfl
            | true =>
              have hon := hb i _ (Array.getElem?_eq_getElem hlt) ed hed hbd
              have := hmin ed.on hon
              rw [Array.getD_eq_getD_getElem?, Array.getElem?_eq_getElem (by omega)] at this ⊢
              simpa using this
          rw [hr] at this
          simp at this
      rw [hR0] at e
      simp only [runN, List.map_nil, Option.some.injEq, Prod.mk.injEq] at e
      obtain ⟨_, rfl⟩ := e
      exact hQ g a w h
    · obtain ⟨h1, h2, o, ho, hpre⟩ := ready_mem listed i hi
      have hsplit : List.range ops.size = List.range i ++ i :: List.range' (i + 1) (ops.size - i - 1) := by
        have h3 : ops.size = i + (ops.size - i) := by omega
        have h4 : ops.size - i = (ops.size - i - 1) + 1 := by omega
        conv => lhs; rw [h3, List.range_add]
        congr 1
        rw [h4, Nat.add_sub_cancel, List.range_succ_eq_map, List.map_cons, Nat.add_zero, List.map_map, List.range'_eq_map_range]
        congr 1
        refine List.map_congr_left fun k _ => ?_
        simp only [Function.comp, Nat.succ_eq_add_one]
        omega
      have hRs : R = (List.range i).filter (fun k => !listed.getD k true) ++ i :: (List.range' (i + 1) (ops.size - i - 1)).filter (fun k => !listed.getD k true) := by
        rw [hR, hsplit, List.filter_append, List.filter_cons, if_pos (by simp [h2])]
      rw [hRs] at e
      obtain ⟨st1, k1, k2⟩ := run_front ho e (fun k hk => by
        simp only [List.mem_filter, List.mem_range, Bool.not_eq_true'] at hk
        obtain ⟨hki, hkl⟩ := hk
        have hx : ops[k]? = some ops[k] := Array.getElem?_eq_getElem (by omega)
        rcases hd k i _ _ hki hx ho with hbit | hok
        · exfalso
          have := before_ok hc ho hpre hbit
          rw [Array.getD_eq_getD_getElem?, Array.getElem?_eq_getElem (by omega)] at this hkl
          simp at this hkl
          rw [this] at hkl
          simp at hkl
        · refine ⟨hok.1, fun x hx' => ?_⟩
          rw [hx] at hx'
          simp only [Option.some.injEq] at hx'
          rw [← hx']
          exact hok.2)
      obtain ⟨tm, H⟩ := st
      refine op1_ok hty hcall ho h k1 fun g' a' w' hr => ?_
      refine ih (listed.setIfInBounds i true) _ (by simpa using hs) ?_ ?_ ?_ k2 hr hQ
      · rw [hsplit, List.filter_append, List.filter_cons, if_neg (by rw [setg _ _ _ _ hs h1]; simp)]
        congr 1
        · refine List.filter_congr fun k hk => ?_
          rw [List.mem_range] at hk
          rw [setg _ _ _ _ hs h1, if_neg (by omega)]
        · refine List.filter_congr fun k hk => ?_
          rw [List.mem_range'_1] at hk
          rw [setg _ _ _ _ hs h1, if_neg (by omega)]
      · have := congrArg List.length hRs
        simp only [List.length_append, List.length_cons] at this ⊢
        omega
      · intro j x hx hj ed hed hbd
        rw [setg _ _ _ _ hs h1] at hj ⊢
        split
        · rfl
        · split at hj
          · rename_i hij
            subst hij
            rw [ho] at hx
            simp only [Option.some.injEq] at hx
            subst hx
            exact hpre ed hed hbd
          · exact hc j x hx hj ed hed hbd
theorem runN_length {ops : Array Oper} {ids : List Nat} : ∀ {L : List Nat} {st st' : St} {cs : List Cls}, runN ty fn cl ops ids L st = some (cs, st') → cs.length = L.length
  | [], st, st', cs, e => by
    simp only [runN, Option.some.injEq, Prod.mk.injEq] at e
    rw [← e.1]
    rfl
  | i :: L, st, st', cs, e => by
    rw [runN] at e
    split at e
    · simp at e
    · split at e
      · simp at e
      · split at e
        · simp at e
        · rename_i h2
          simp only [Option.some.injEq, Prod.mk.injEq] at e
          rw [← e.1, List.length_cons, List.length_cons, runN_length h2]
theorem region_ok (hty : TyOk P ty) (hcall : CallStep P ty fn cl A) (hm : P.follows .mixedOrders = true) {id : Nat} {ops : Array Oper} {draw : Bool} {ids : List Nat} {Q : Exit → Act → World → Prop} {st : St} {g : Gh} {a : Act} {w : World} (h : Rel ty A g st a w)
    {cs : List Cls} {st' : St} (e : runN ty fn cl ops ids (List.range ops.size) st = some (cs, st')) (hd : (draw && !(drawOk ops cs)) = false) (hQ : ∀ g' a' w', Rel ty A g' st' a' w' → Q .normal a' w') : (Code.region id ops draw).wp P Q a w := by
  cases draw with
  | false => exact wp_region (run_ops hty hcall e h hQ)
  | true =>
    simp only [Bool.true_and, Bool.not_eq_false'] at hd
    have hlen : cs.length = ops.size := by rw [runN_length e, List.length_range]
    have hcs : cs = (List.range ops.size).map fun i => cs.getD i .w := by
      apply List.ext_getElem?
      intro i
      rw [List.getElem?_map]
      by_cases hi : i < ops.size
      · rw [List.getElem?_range hi]
        simp [List.getD_eq_getElem?_getD, List.getElem?_eq_getElem (show i < cs.length by omega)]
      · rw [List.getElem?_eq_none (by omega), List.getElem?_eq_none (by simp; omega)]
        rfl
    have hfilt : (List.range ops.size).filter (fun i => !(Array.replicate ops.size false).getD i true) = List.range ops.size := by
      rw [List.filter_eq_self]
      intro i hi
      rw [List.mem_range] at hi
      simp [Array.getD_eq_getD_getElem?, hi]
    unfold drawOk at hd
    simp only [List.all_eq_true, List.mem_range, Bool.and_eq_true, hlen] at hd
    have hrel : Rel ty A g st a { w with drawn := w.drawn + 1 } := by
      have hch : Ch g g st.H st.H w { w with drawn := w.drawn + 1 } := ⟨fun _ h => h, fun _ _ => rfl, fun _ h => h, fun _ _ h => ⟨h, rfl⟩, fun _ _ h => ⟨h, rfl⟩⟩
      obtain ⟨tm, H⟩ := st
      exact h.ch hch (fun i o ho => OR.mono hch rfl rfl rfl (fun b hb => ⟨rfl, oblk_notI h ho hb⟩) (h.ob i o ho)) h.sep h.lt h.inI h.ow h.pb (h.keep.trans rfl rfl rfl (Nat.le_refl _) fun _ _ _ _ => rfl)
    refine wp_region_any hm (run_any (ids := ids) (cls := fun i => cs.getD i .w) hty hcall (fun j x hx ed hed hbd => ?_) (fun i j x y hij hx hy => ?_) ops.size _ (List.range ops.size) (by simp) hfilt.symm (by simp) ?_ (by rw [← hcs]; exact e) hrel hQ)
    · have hj : j < ops.size := by
        rcases Nat.lt_or_ge j ops.size with h' | h'
        · exact h'
        · simp [Array.getElem?_eq_none h'] at hx
      have := (hd j hj).1 ed (by
        rw [Array.getD_eq_getD_getElem?, hx]
        simpa using hed)
      rw [hbd] at this
      simpa [Nat.blt_eq] using this
    · have hj : j < ops.size := by
        rcases Nat.lt_or_ge j ops.size with h' | h'
        · exact h'
        · simp [Array.getElem?_eq_none h'] at hy
      have := (hd j hj).2 i hij
      rw [Bool.or_eq_true, Bool.and_eq_true, Array.getD_eq_getD_getElem? (xs := ops), hx, Array.getD_eq_getD_getElem? (xs := ops), hy] at this
      exact this
    · intro j o ho hL
      rw [Array.getD_eq_getD_getElem?] at hL
      have hj : j < ops.size := by
        rcases Nat.lt_or_ge j ops.size with h' | h'
        · exact h'
        · simp [Array.getElem?_eq_none h'] at ho
      simp [hj] at hL
end
section
variable {P : Program} {ty : Nat → Option TI} {fn : Nat → Option FI} {cl : Nat → Hint → List DC → Out} {A : An}
def EQ (ty : Nat → Option TI) (A : An) (rt : St → Out) (Γ : Nat → Option Hint) (o : Out) (K : St → Out) : Exit → Act → World → Prop
  | .normal, a, w => ∃ g st, Rel ty A g st a w ∧ K st = o
  | .exit id, a, w => ∃ g h v, Γ id = some h ∧ o = .ex id v ∧ Rel ty A g (mkSt h v) a w
  | .ret, a, w => ∃ g st, Rel ty A g st a w ∧ rt st = o
  | _, _, _ => False
theorem toNorm_some {mm : Nat} {h : Hint} {st : St} {o : Out} (e : toNorm ty mm h st = o) (ho : o ≠ .fail) : ∃ v, o = .norm v ∧ normS ty mm h st = some v := by
  unfold toNorm at e
  split at e
  · rename_i v hv
    exact ⟨v, e.symm, hv⟩
  · exact absurd e.symm ho
theorem seg_ok (hty : TyOk P ty) (hcall : CallStep P ty fn cl A) {mm : Nat} (hA : A.m = mm) {ops : Array Oper} {ids : List Nat} {K : St → Out} {o : Out} {Q : Exit → Act → World → Prop} (ho : o ≠ .fail)
    (hQ : ∀ g st a w, Rel ty A g st a w → K st = o → Q .normal a w) : ∀ (segs : List (Nat × Hint)) (n m : Nat) (st : St) (g : Gh) (a : Act) (w : World), n + m = ops.size → Rel ty A g st a w →
    segR ty fn cl mm ops segs (zipI (ops.toList.drop n) (ids.drop n)) st K = o → wpOps P ops Q (List.range' n m) a w
  | [], n, m, st, g, a, w, hs, h, e => by
    rw [segR, runR_run m n [] st hs] at e
    cases hr : runN ty fn cl ops ids (List.range' n m) st with
    | none => rw [hr] at e; exact absurd e.symm ho
    | some r =>
      rw [hr] at e
      exact run_ops hty hcall hr h fun g' a' w' hrel => hQ g' _ a' w' hrel e
  | (k, hn) :: segs, n, m, st, g, a, w, hs, h, e => by
    rw [segR] at e
    have hk : (zipI (ops.toList.drop n) (ids.drop n)).take k = (zipI (ops.toList.drop n) (ids.drop n)).take (min k m) := by
      rw [show min k m = min k (zipI (ops.toList.drop n) (ids.drop n)).length by rw [zipI_length, List.length_drop, Array.length_toList]; omega]
      exact List.take_eq_take_min
    have hd : (zipI (ops.toList.drop n) (ids.drop n)).drop k = (zipI (ops.toList.drop n) (ids.drop n)).drop (min k m) := by
      rcases Nat.le_total k m with hle | hle
      · rw [Nat.min_eq_left hle]
      · rw [Nat.min_eq_right hle, List.drop_of_length_le (by rw [zipI_length, List.length_drop, Array.length_toList]; omega), List.drop_of_length_le (by rw [zipI_length, List.length_drop, Array.length_toList]; omega)]
    rw [hk, hd, zipI_drop, List.drop_drop, List.drop_drop, runR_take (min k m) n [] st (by omega)] at e
    cases hr : runN ty fn cl ops ids (List.range' n (min k m)) st with
    | none => rw [hr] at e; exact absurd e.symm ho
    | some r =>
      rw [hr] at e
      simp only [via] at e
      have hsplit : List.range' n m = List.range' n (min k m) ++ List.range' (n + min k m) (m - min k m) := by
        have := List.range'_append_1 (s := n) (m := min k m) (n := m - min k m)
        rw [this]
        congr 1
        omega
      rw [hsplit]
      have hne : toNorm ty mm hn r.2 ≠ .fail := by
        intro hf
        rw [hf] at e
        exact ho e.symm
      obtain ⟨v, h1, h2⟩ := toNorm_some rfl hne
      rw [h1] at e
      refine run_ops_more hty hcall hr h fun g' a' w' hrel => ?_
      obtain ⟨g2, hr2⟩ := norm_ok hrel hA h2
      exact seg_ok hty hcall hA ho hQ segs _ _ _ g2 a' w' (by omega) hr2 e
theorem exec_ok (hty : TyOk P ty) (hcall : CallStep P ty fn cl A) (hm : P.follows .mixedOrders = true) {mm lf : Nat} (hA : A.m = mm) {rt : St → Out} (hrt : ∀ st v, rt st ≠ .norm v) (hrx : ∀ st id v, rt st ≠ .ex id v) :
    ∀ (c : AC) (Γ : Nat → Option Hint) (st : St) (K : St → Out) (o : Out) (g : Gh) (a : Act) (w : World), Rel ty A g st a w → exec ty fn cl mm lf rt c Γ st K = o → o ≠ .fail → c.code.wp P (EQ ty A rt Γ o K) a w
  | .skip, Γ, st, K, o, g, a, w, h, e, ho => wp_skip ⟨g, st, h, e⟩
  | .region id ops draw ids none, Γ, st, K, o, g, a, w, h, e, ho => by
    rw [exec] at e
    rcases runR_some e with he | ⟨cs, st', h1, h2⟩
    · exact absurd he ho
    · cases hd : draw && !(drawOk ops cs) with
      | true => rw [hd] at h2; exact absurd h2.symm ho
      | false =>
        rw [hd] at h2
        exact region_ok hty hcall hm h h1 hd fun g' a' w' hr => ⟨g', st', hr, h2⟩
  | .region id ops draw ids (some hn), Γ, st, K, o, g, a, w, h, e, ho => by
    rw [exec] at e
    generalize hx : (runR ty fn cl Out.fail ops (zipI ops.toList ids) [] st fun cs st' => match draw && !(drawOk ops cs) with
      | true => .fail
      | false => toNorm ty mm hn st') = x at e
    rcases runR_some hx with he | ⟨cs, st', h1, h2⟩
    · rw [he] at e; exact absurd e.symm ho
    · cases hd : draw && !(drawOk ops cs) with
      | true => rw [hd] at h2; dsimp only at h2; rw [← h2] at e; exact absurd e.symm ho
      | false =>
        rw [hd] at h2
        dsimp only at h2
        have hxf : x ≠ .fail := by rintro rfl; exact ho e.symm
        obtain ⟨v, rfl, hv⟩ := toNorm_some h2 hxf
        exact region_ok hty hcall hm h h1 hd fun g' a' w' hr => by
          obtain ⟨g2, hr2⟩ := norm_ok hr hA hv
          exact ⟨g2, mkSt hn v, hr2, e⟩
  | .rcut id ops ids segs, Γ, st, K, o, g, a, w, h, e, ho => by
    rw [exec] at e
    refine wp_region ?_
    rw [List.range_eq_range']
    exact seg_ok (ids := ids) hty hcall hA ho (fun g st a w hr hk => ⟨g, st, hr, hk⟩) segs 0 ops.size st g a w (by simp) h (by simpa using e)
  | .seq x y, Γ, st, K, o, g, a, w, h, e, ho => by
    rw [exec] at e
    refine wp_seq (wp_mono (exec_ok hty hcall hm hA hrt hrx x Γ st _ o g a w h e ho) fun ex a' w' hq => ?_)
    cases ex with
    | normal =>
      obtain ⟨g', st', hr, hk⟩ := hq
      exact exec_ok hty hcall hm hA hrt hrx y Γ st' K o g' a' w' hr hk ho
    | exit id => exact hq
    | ret => exact hq
    | goto l => exact hq.elim
    | panic c => exact hq.elim
    | outgrown => exact hq.elim
  | .cond c x y none, Γ, st, K, o, g, a, w, h, e, ho => by
    rw [exec] at e
    obtain ⟨tm, H⟩ := st
    split at e
    · rename_i b hb
      have hc := h.opd c
      dsimp only at hb
      rw [hb] at hc
      refine wp_cond (t := b) (show a.eval c = .bool b from hc) ?_
      cases b with
      | true => exact exec_ok hty hcall hm hA hrt hrx x Γ _ K o g a w h (by simpa using e) ho
      | false => exact exec_ok hty hcall hm hA hrt hrx y Γ _ K o g a w h (by simpa using e) ho
    · exact absurd e.symm ho
  | .cond c x y (some hn), Γ, st, K, o, g, a, w, h, e, ho => by
    rw [exec] at e
    obtain ⟨tm, H⟩ := st
    split at e
    · rename_i b hb
      have hc := h.opd c
      dsimp only at hb
      rw [hb] at hc
      refine wp_cond (t := b) (show a.eval c = .bool b from hc) ?_
      have fin : ∀ (z : AC) (i : Out), exec ty fn cl mm lf rt z Γ ⟨tm, H⟩ (toNorm ty mm hn) = i → i.andThen (fun v => K (mkSt hn v)) = o → (∀ (o' : Out), exec ty fn cl mm lf rt z Γ ⟨tm, H⟩ (toNorm ty mm hn) = o' → o' ≠ .fail → z.code.wp P (EQ ty A rt Γ o' (toNorm ty mm hn)) a w) →
          z.code.wp P (EQ ty A rt Γ o K) a w := by
        intro z i hi hio ih
        have hif : i ≠ .fail := by rintro rfl; exact ho hio.symm
        refine wp_mono (ih i hi hif) fun ex a' w' hq => ?_
        cases ex with
        | normal =>
          obtain ⟨g', st', hr, hk⟩ := hq
          obtain ⟨v, rfl, hv⟩ := toNorm_some hk hif
          obtain ⟨g2, hr2⟩ := norm_ok hr hA hv
          exact ⟨g2, mkSt hn v, hr2, hio⟩
        | exit id =>
          obtain ⟨g', h', v, k1, rfl, k3⟩ := hq
          exact ⟨g', h', v, k1, hio.symm, k3⟩
        | ret =>
          obtain ⟨g', st', hr, rfl⟩ := hq
          refine ⟨g', st', hr, ?_⟩
          rw [← hio]
          cases hrs : rt st' with
          | norm v => exact absurd hrs (hrt st' v)
          | ex id v => rfl
          | ret v => rfl
          | fail => rfl
        | goto l => exact hq.elim
        | panic c => exact hq.elim
        | outgrown => exact hq.elim
      cases b with
      | true => exact fin x _ rfl (by simpa using e) fun o' h1 h2 => exec_ok hty hcall hm hA hrt hrx x Γ _ _ o' g a w h h1 h2
      | false => exact fin y _ rfl (by simpa using e) fun o' h1 h2 => exec_ok hty hcall hm hA hrt hrx y Γ _ _ o' g a w h h1 h2
    · exact absurd e.symm ho
  | .block id body hn, Γ, st, K, o, g, a, w, h, e, ho => by
    rw [exec] at e
    generalize hi : exec ty fn cl mm lf rt body (fun j => if j = id then some hn else Γ j) st (toNorm ty mm hn) = i at e
    have hif : i ≠ .fail := by rintro rfl; exact ho e.symm
    refine wp_block (wp_mono (exec_ok hty hcall hm hA hrt hrx body _ st _ i g a w h hi hif) fun ex a' w' hq => ?_)
    cases ex with
    | normal =>
      obtain ⟨g', st', hr, hk⟩ := hq
      obtain ⟨v, rfl, hv⟩ := toNorm_some hk hif
      obtain ⟨g2, hr2⟩ := norm_ok hr hA hv
      exact ⟨g2, mkSt hn v, hr2, e⟩
    | exit j =>
      obtain ⟨g', h', v, k1, rfl, k3⟩ := hq
      simp only [Exit.inBlock]
      simp only [Out.andThenB] at e
      dsimp only at k1
      by_cases hj : j = id
      · rw [if_pos hj] at k1 e ⊢
        simp only [Option.some.injEq] at k1
        subst k1
        exact ⟨g', mkSt hn v, k3, e⟩
      · rw [if_neg hj] at k1 e ⊢
        exact ⟨g', h', v, k1, e.symm, k3⟩
    | ret =>
      obtain ⟨g', st', hr, rfl⟩ := hq
      refine ⟨g', st', hr, ?_⟩
      rw [← e]
      cases hrs : rt st' with
      | norm v => exact absurd hrs (hrt st' v)
      | ex id v => exact absurd hrs (hrx st' id v)
      | ret v => rfl
      | fail => rfl
    | goto l => exact hq.elim
    | panic c => exact hq.elim
    | outgrown => exact hq.elim
  | .loop body hn, Γ, st, K, o, g, a, w, h, e, ho => by
    rw [exec] at e
    split at e
    · rename_i v0 hv0
      obtain ⟨g0, hr0⟩ := norm_ok h hA hv0
      refine wp_loop_ghost (fun n a w => ∃ v g, Rel ty A g (mkSt hn v) a w ∧ loopF (fun v => exec ty fn cl mm lf rt body Γ (mkSt hn v) (toNorm ty mm hn)) n v = o) lf ⟨v0, g0, hr0, e⟩ fun n a w hI => ?_
      obtain ⟨v, g, hr, hl⟩ := hI
      cases n with
      | zero => exact absurd hl.symm ho
      | succ n =>
        rw [loopF] at hl
        generalize hi : exec ty fn cl mm lf rt body Γ (mkSt hn v) (toNorm ty mm hn) = i at hl
        have hif : i ≠ .fail := by rintro rfl; exact ho hl.symm
        refine wp_mono (exec_ok hty hcall hm hA hrt hrx body Γ _ _ i g a w hr hi hif) fun ex a' w' hq => ?_
        cases ex with
        | normal =>
          obtain ⟨g', st', hr, hk⟩ := hq
          obtain ⟨v', rfl, hv⟩ := toNorm_some hk hif
          obtain ⟨g2, hr2⟩ := norm_ok hr hA hv
          exact ⟨n, Nat.lt_succ_self n, v', g2, hr2, hl⟩
        | exit id =>
          obtain ⟨g', h', v', k1, rfl, k3⟩ := hq
          exact ⟨g', h', v', k1, hl.symm, k3⟩
        | ret =>
          obtain ⟨g', st', hr, rfl⟩ := hq
          refine ⟨g', st', hr, ?_⟩
          rw [← hl]
          cases hrs : rt st' with
          | norm v => exact absurd hrs (hrt st' v)
          | ex id v => rfl
          | ret v => rfl
          | fail => rfl
        | goto l => exact hq.elim
        | panic c => exact hq.elim
        | outgrown => exact hq.elim
    · exact absurd e.symm ho
  | .exit id, Γ, st, K, o, g, a, w, h, e, ho => by
    rw [exec] at e
    split at e
    · rename_i hn hg
      split at e
      · rename_i v hv
        obtain ⟨g2, hr2⟩ := norm_ok h hA hv
        exact wp_exit ⟨g2, hn, v, hg, e.symm, hr2⟩
      · exact absurd e.symm ho
    · exact absurd e.symm ho
  | .ret, Γ, st, K, o, g, a, w, h, e, ho => by
    rw [exec] at e
    exact wp_ret ⟨g, st, h, e⟩
end
section
variable {P : Program} {ty : Nat → Option TI} {fn : Nat → Option FI} {cl : Nat → Hint → List DC → Out} {A : An}
def RVs : List (Bool × List RK) → List Value → List Value → Prop
  | [], [], us => us = []
  | (a, ks) :: rs, v :: vs, us => ∃ u1 u2, us = u1 ++ u2 ∧ u1.length = ks.length ∧ (a = true → v = .agg u1.toArray) ∧ (a = false → u1 = [v]) ∧ RVs rs vs u2
  | _, _, _ => False
def OV (w : World) (b : Nat → Nat) : Nat → List KO → List Value → Prop
  | _, [], us => us = []
  | j, .var t l :: ks, us => ∃ u1 u2, us = u1 ++ u2 ∧ u1.length = l.length ∧ w.heap[b j]? = some (.cells u1.toArray t (0, 0)) ∧ (∀ u ∈ u1, u.oneCell' = true) ∧ OV w b (j + 1) ks u2
  | _, .u :: _, _ => False
structure Res (ty : Nat → Option TI) (A : An) (kos : List KO) (rk : List (Bool × List RK)) (r : List DC) (vs : List Value) (w' : World) : Prop where
  ex : ∃ (g1 : Gh) (H0 H1 : List HS) (us1 us2 : List Value), RVs rk vs us1 ∧ OV w' A.pb 0 kos us2 ∧ FL ty A g1 H0 H1 w' r 0 (rkAll 0 rk ++ kos.flatMap KO.kinds) (us1 ++ us2) ∧ Apart (vblk g1 H0) (rkAll 0 rk ++ kos.flatMap KO.kinds) (us1 ++ us2) ∧
    (∀ b, g1.I b → b < w'.heap.size ∧ (A.I0 b ∨ A.w0.heap.size ≤ b ∨ A.Pm b)) ∧ (∀ j, j < A.m → ¬ g1.I (A.pb j)) ∧ ∀ j, j < A.m → ∃ o, getH H1 j = .live o ∧ oblk g1 j o (A.pb j)
  keep : Keep A w'
def resVal (vs : List Value) : Value :=
  match vs with
  | [v] => v
  | vs => .tuple vs.toArray
structure Glob where
  gb : Nat → Prop
  ok : World → Prop
  dep : ∀ w w' : World, (∀ b, gb b → w'.heap[b]? = w.heap[b]?) → ok w → ok w'
def Glob.none : Glob := ⟨fun _ => False, fun _ => True, fun _ _ _ _ => trivial⟩
def AOk (G : Glob) (A : An) : Prop := G.ok A.w0 ∧ ∀ b, G.gb b → b < A.w0.heap.size ∧ ¬ A.Pv b ∧ ¬ A.Pm b
def CallsTo (P : Program) (G : Glob) (ty : Nat → Option TI) (f : Nat) (fi : FI) (h : Hint) (v r : List DC) : Prop :=
  ∀ (A : An) (g : Gh) (vals : Array Value) (w : World), AOk G A → Rel ty A g (startSt fi h v) { tmps := vals ++ Array.replicate (fi.ntmps - vals.size) undef, defers := [] } w → vals.size = h.tm.length → A.w0 = w → A.m = (KO.vars h.ob).length →
    Calls P f vals w fun
      | .returned rv, w' => ∃ vs, rv = resVal vs ∧ Res ty A (KO.vars h.ob) fi.rk r vs w'
      | _, _ => False
def CallOK (P : Program) (G : Glob) (ty : Nat → Option TI) (fn : Nat → Option FI) (cl : Nat → Hint → List DC → Out) : Prop :=
  ∀ f fi h v r, fn f = some fi → cl f h v = .ret r → CallsTo P G ty f fi h v r
structure Wrote (w w' : World) (F : List Nat) : Prop where
  os : w'.os = w.os
  tape : w'.tape = w.tape
  output : w'.output = w.output
  size : w.heap.size ≤ w'.heap.size
  block : ∀ b, b < w.heap.size → b ∉ F → w'.heap[b]? = w.heap[b]?
  shape : ∀ b ∈ F, ∀ cs t, w.heap[b]? = some (.cells cs t (0, 0)) → ∃ cs', w'.heap[b]? = some (.cells cs' t (0, 0)) ∧ cs'.size = cs.size
inductive Rds (ty : Nat → Option TI) (w : World) (vs : List Value) : List (Nat × Nat) → List (List (List DC)) → List (List Nat) → Prop
  | nil : Rds ty w vs [] [] []
  | cons (off e : Nat) (v : Value) (l : List (List DC)) (F : List Nat) (ps : List (Nat × Nat)) (ls : List (List (List DC))) (Fs : List (List Nat)) :
      vs[off]? = some v → RdC ty w (.sl e) (.sl l) v F → Rds ty w vs ps ls Fs → Rds ty w vs ((off, e) :: ps) (l :: ls) (F :: Fs)
def MarkOK (P : Program) (ty : Nat → Option TI) (f : Nat) (m : MK) : Prop :=
  ∀ (w : World) (arg : Value) (vs : List Value) (k : Int) (ls ls' : List (List (List DC))) (k' : Int) (Fs : List (List Nat)), (m.agg = true → arg = .agg vs.toArray) → (m.agg = false → vs = [arg]) → vs.length = m.n → (∀ u ∈ vs, u.oneCell' = true) →
    Rds ty w vs m.parts ls Fs → Own w Fs.flatten → m.run ls k = some (ls', k') →
    Calls P f #[arg, .int .i64 k] w fun en w' => en = .returned (.int .i64 k') ∧ Wrote w w' Fs.flatten ∧ Rds ty w' vs m.parts ls' Fs
def StOK (P : Program) (G : Glob) (ty : Nat → Option TI) (f : Nat) (q : Nat → List HS → List C → Option (Nat × List HS × C)) : Prop :=
  ∀ (A : An) (g : Gh) (tm : List C) (H H' : List HS) (a : Act) (w : World) (base n : Nat) (args : List C) (vals : List Value) (c : C), AOk G A → Rel ty A g ⟨tm, H⟩ a w → vals.length = args.length →
    (∀ (i : Nat) (c : C) (v : Value), args[i]? = some c → vals[i]? = some v → CR ty g H w c v) → q base H args = some (n, H', c) → n < LIM →
    Calls P f vals.toArray w fun en w' => ∃ v g', en = .returned v ∧ Rel ty A g' ⟨tm, H'⟩ a w' ∧ (∀ b, g.I b → g'.I b) ∧ CR ty g' H' w' c v
structure FnOk (P : Program) (G : Glob) (ty : Nat → Option TI) (f : Nat) (fi : FI) : Prop where
  ex : ∃ fd, P.funcs[f]? = some fd ∧ (fd.name == "runtime.NumGoroutine") = false ∧ fd.body.isNone = false ∧ (fi.prim = none → (∀ h, fd.body = some (fi.body h).code) ∧ fd.ntmps = fi.ntmps ∧ fd.results.toList = fi.res)
  prim : ∀ p, fi.prim = some p → ∀ h v r, p h v = some r → CallsTo P G ty f fi h v r
  mark : ∀ m, fi.mark = some m → MarkOK P ty f m
  stf : ∀ q, fi.stf = some q → StOK P G ty f q
def resF (tmps : Array Value) : ResultVar → Sem Value
  | .tmp t => pure (tmps.getD t undef)
  | .cell a t => do loadVar t (← asAddr (tmps.getD a undef))
theorem run_results {fd : Func} {tmps : Array Value} {w : World} {vs : List Value} (h : (fd.results.toList.mapM (resF tmps)).run P w = .ok vs w) : (results fd tmps).run P w = .ok (resVal vs) w := by
  unfold results
  rw [Sem.run_bind, Array.mapM_eq_mapM_toList]
  simp only [Sem.run_map]
  have hf : (fun x => match x with
    | ResultVar.tmp t => pure (tmps.getD t undef)
    | ResultVar.cell a t => do loadVar t (← asAddr (tmps.getD a undef)) : ResultVar → Sem Value) = resF tmps := by
    funext x
    cases x <;> rfl
  have h' : ∀ f : ResultVar → Sem Value, f = resF tmps → (fd.results.toList.mapM f).run P w = .ok vs w := fun f hf => by rw [hf]; exact h
  rw [h' _ (by funext x; cases x <;> rfl)]
  simp only [Result.andThen_ok, Sem.run_pure]
  match vs with
  | [] => rfl
  | [v] => rfl
  | _ :: _ :: _ => rfl
theorem resSrc_ok (hty : TyOk P ty) {g : Gh} {st : St} {a : Act} {w : World} (h : Rel ty A g st a w) : ∀ {rs : List ResultVar} {rk : List (Bool × List RK)} {p : List S}, resSrc ty st rs rk = some p →
    ∃ vs us : List Value, (rs.mapM (resF a.tmps)).run P w = .ok vs w ∧ SRL ty g st.H w p us ∧ RVs rk vs us
  | [], [], p, e => by
    simp only [resSrc, Option.some.injEq] at e
    subst e
    exact ⟨[], [], rfl, trivial, rfl⟩
  | .tmp t :: rs, (ag, ks) :: rk, p, e => by
    obtain ⟨tm, H⟩ := st
    unfold resSrc at e
    have hr := h.getD t
    split at e
    · rename_i s l hs hl
      split at e
      · rename_i hk
        simp only [Option.some.injEq] at e
        subst e
        obtain ⟨vs, us, h1, h2, h3⟩ := resSrc_ok hty h hl
        dsimp only at hs
        rw [hs] at hr
        refine ⟨a.tmps.getD t undef :: vs, a.tmps.getD t undef :: us, ?_, ⟨hr, h2⟩, [a.tmps.getD t undef], us, rfl, by simp [hk], fun h => by simp at h, fun _ => rfl, h3⟩
        rw [List.mapM_cons, Sem.run_bind, resF, Sem.run_pure, Result.andThen_ok, Sem.run_bind, h1]
        rfl
      · simp at e
    · rename_i ss l hs hl
      split at e
      · rename_i hk
        simp only [Option.some.injEq] at e
        subst e
        obtain ⟨vs, us, h1, h2, h3⟩ := resSrc_ok hty h hl
        dsimp only at hs
        rw [hs] at hr
        obtain ⟨xs, hx, hxs⟩ := hr
        refine ⟨a.tmps.getD t undef :: vs, xs ++ us, ?_, hxs.append h2, xs, us, rfl, by rw [hxs.length, hk], fun _ => hx, fun h => by simp at h, h3⟩
        rw [List.mapM_cons, Sem.run_bind, resF, Sem.run_pure, Result.andThen_ok, Sem.run_bind, h1]
        rfl
      · simp at e
    · simp at e
  | .cell pt t :: rs, (ag, ks) :: rk, p, e => by
    obtain ⟨tm, H⟩ := st
    unfold resSrc at e
    have hr := h.getD pt
    split at e
    · rename_i id ti l hs ht hl
      split at e
      · rename_i t' cs hv
        split at e
        · rename_i hc
          simp only [Option.some.injEq] at e
          subst e
          obtain ⟨vs, us, h1, h2, h3⟩ := resSrc_ok hty h hl
          dsimp only at hs hv
          rw [hs] at hr
          have hp : a.tmps.getD pt undef = .pointer (some ⟨g.blk id, 0, none⟩) := hr.2.2 ⟨_, _, hv⟩
          obtain ⟨xs, k1, k2, k3, k4⟩ := h.ob id _ hv
          have hxl := k2.length
          have htk := hty t ti ht
          have hload := run_loadVar htk w (g.blk id) 0 xs (by omega) (fun j u hu => by
            rw [Nat.zero_add]
            simp [World.cell?, k1, hu])
          refine ⟨(if isStruct (some ti) then .agg xs.toArray else xs.headD undef) :: vs, xs ++ us, ?_, k2.append h2, xs, us, rfl, by omega, fun ha => ?_, fun ha => ?_, h3⟩
          · rw [List.mapM_cons, Sem.run_bind, resF, hp]
            simp only [asAddr, Sem.run_bind, Sem.run_pure, Result.andThen_ok, hload, h1]
          · rw [hc.2.2, ha, if_pos rfl]
          · have := htk.one (by rw [hc.2.2, ha])
            match xs, hxl with
            | [], hxl => simp at hxl; omega
            | [x], _ => rw [hc.2.2, ha]; rfl
            | _ :: _ :: _, hxl => simp at hxl; omega
        · simp at e
      · simp at e
    · simp at e
  | [], _ :: _, _, e => by simp [resSrc] at e
  | .tmp _ :: _, [], _, e => by simp [resSrc] at e
  | .cell _ _ :: _, [], _, e => by simp [resSrc] at e
theorem srcO_ov {g : Gh} {H : List HS} {w : World} {tm : List C} {a : Act} (h : Rel ty A g ⟨tm, H⟩ a w) : ∀ {ks : List KO} {id : Nat} {q : List S}, srcO H id (KO.vars ks) = some q → (∀ j, j < (KO.vars ks).length → g.blk (id + j) = A.pb (id + j)) →
    ∃ us : List Value, SRL ty g H w q us ∧ OV w A.pb id (KO.vars ks) us ∧ q.length = ((KO.vars ks).flatMap KO.kinds).length ∧ ∀ j, j < (KO.vars ks).length → isVar H (id + j)
  | [], id, q, e, _ => by
    simp only [KO.vars, srcO, Option.some.injEq] at e
    subst e
    exact ⟨[], trivial, rfl, rfl, fun j hj => by simp [KO.vars] at hj⟩
  | .u :: _, id, q, e, _ => by
    simp only [KO.vars, srcO, Option.some.injEq] at e
    subst e
    exact ⟨[], trivial, rfl, rfl, fun j hj => by simp [KO.vars] at hj⟩
  | .var t l :: ks, id, q, e, hb => by
    simp only [KO.vars, srcO] at e
    split at e
    · rename_i t' cs hv
      split at e
      · rename_i hc
        obtain ⟨rfl, hc⟩ := hc
        split at e
        · rename_i r hr
          simp only [Option.some.injEq] at e
          subst e
          obtain ⟨us, h1, h2, h3, h4⟩ := srcO_ov h hr (fun j hj => by
            have := hb (j + 1) (by simp [KO.vars]; exact hj)
            rw [show id + 1 + j = id + (j + 1) by omega]
            exact this)
          obtain ⟨xs, k1, k2, k3, k4⟩ := h.ob id _ hv
          refine ⟨xs ++ us, k2.append h1, ⟨xs, us, rfl, by rw [k2.length, hc], ?_, k4, h2⟩, by simp [KO.vars, KO.kinds, h3, hc], fun j hj => ?_⟩
          · have := hb 0 (by simp [KO.vars])
            rw [Nat.add_zero] at this
            rw [← this]
            exact k1
          · cases j with
            | zero => exact ⟨_, _, hv⟩
            | succ j =>
              rw [show id + (j + 1) = id + 1 + j by omega]
              exact h4 j (by simpa [KO.vars] using hj)
        · simp at e
      · simp at e
    · simp at e
theorem ret_ok (hty : TyOk P ty) {g : Gh} {st : St} {a : Act} {w : World} (h : Rel ty A g st a w) {fi : FI} {hn : Hint} {r : List DC} (hm : A.m = (KO.vars hn.ob).length) (e : retOut ty fi hn st = .ret r) {fd : Func} (hres : fd.results.toList = fi.res) :
    ∃ vs, (results fd a.tmps).run P w = .ok (resVal vs) w ∧ Res ty A (KO.vars hn.ob) fi.rk r vs w := by
  unfold retOut at e
  split at e
  · rename_i p q hp hq
    split at e
    · rename_i v H1 hv
      simp only [Out.ret.injEq] at e
      subst e
      obtain ⟨vs, us1, h1, h2, h3⟩ := resSrc_ok hty h hp
      obtain ⟨tm, H⟩ := st
      have hall : ∀ j, j < (KO.vars hn.ob).length → isVar H j := by
        have : ∀ {ks : List KO} {id : Nat} {q : List S}, srcO H id (KO.vars ks) = some q → ∀ j, j < (KO.vars ks).length → isVar H (id + j) := by
          intro ks
          induction ks with
          | nil => intro id q _ j hj; simp [KO.vars] at hj
          | cons k ks ih =>
            intro id q e j hj
            cases k with
            | u => simp [KO.vars] at hj
            | var t l =>
              simp only [KO.vars, srcO] at e
              split at e
              · rename_i t' cs hv
                split at e
                · split at e
                  · rename_i r hr
                    cases j with
                    | zero => exact ⟨_, _, hv⟩
                    | succ j =>
                      rw [show id + (j + 1) = id + 1 + j by omega]
                      exact ih hr j (by simpa [KO.vars] using hj)
                  · simp at e
                · simp at e
              · simp at e
        intro j hj
        have := this hq j hj
        rwa [Nat.zero_add] at this
      obtain ⟨us2, b1, b2, b3, b4⟩ := srcO_ov h hq (fun j hj => by
        rw [Nat.zero_add]
        exact h.pb j (by omega) (hall j hj))
      obtain ⟨g1, r1, s1, f1, ap, l1, _⟩ := normL_ok (H0 := H) [] [] h (fun _ h => h) (src_uniq h) (src_nil h) (h2.append b1) hv
      rw [← vblk_same s1.val s1.dom] at ap
      simp only [List.nil_append, List.append_nil, List.length_nil] at f1
      have hlive : ∀ j, j < A.m → ∃ o, getH H1 j = .live o ∧ oblk g1 j o (A.pb j) := by
        intro j hj
        obtain ⟨t, cs, hc⟩ := s1.var j (hall j (by omega))
        refine ⟨_, hc, ?_⟩
        show g1.blk j = A.pb j
        rw [s1.blk]
        exact h.pb j hj (hall j (by omega))
      refine ⟨vs, run_results (by rw [hres]; exact h1), ⟨g1, H, H1, us1, us2, h3, b2, f1, ap, fun b hb => ⟨r1.lt b hb, r1.inI b hb⟩, fun j hj hI => ?_, hlive⟩, h.keep⟩
      obtain ⟨o, ho, hb⟩ := hlive j hj
      exact oblk_notI r1 ho hb hI
    · simp at e
  · simp at e
theorem retOut_ne (fi : FI) (h : Hint) (st : St) : (∀ v, retOut ty fi h st ≠ .norm v) ∧ ∀ id v, retOut ty fi h st ≠ .ex id v := by
  unfold retOut
  constructor
  · intro v
    repeat' split
    all_goals simp
  · intro id v
    repeat' split
    all_goals simp
theorem callF_ok {cfg : Cfg} {G : Glob} (hty : TyOk P cfg.ty) (hm : P.follows .mixedOrders = true) (hfn : ∀ f fi, cfg.fn f = some fi → FnOk P G cfg.ty f fi)
    (step : ∀ cl, CallOK P G cfg.ty cfg.fn cl → ∀ A, AOk G A → CallStep P cfg.ty cfg.fn cl A)   : ∀ k, CallOK P G cfg.ty cfg.fn (callF cfg k)
  | 0 => fun f fi h v r hf e => by simp [callF] at e
  | k + 1 => fun f fi h v r hf e => by
    have ih := callF_ok hty hm hfn step k
    rw [callF, hf] at e
    dsimp only at e
    obtain ⟨⟨fd, h1, h2, h3, h4⟩, h5, _⟩ := hfn f fi hf
    split at e
    · rename_i p hp
      split at e
      · rename_i r' hr
        simp only [Out.ret.injEq] at e
        subst e
        exact h5 p hp h v r' hr
      · simp at e
    · rename_i hp
      obtain ⟨k1, k2, k3⟩ := h4 hp
      intro A g vals w hA hr hvs hw hmm
      refine calls_of_wp h1 (k1 h) ?_
      rw [k2]
      refine wp_mono (exec_ok hty (step _ ih A hA) hm hmm (fun st v => (retOut_ne fi h st).1 v) (fun st id v => (retOut_ne fi h st).2 id v) (fi.body h) _ _ _ (.ret r) g _ w hr e (by simp)) fun ex a' w' hq => ?_
      have fin : ∀ g' st', Rel cfg.ty A g' st' a' w' → retOut cfg.ty fi h st' = .ret r → a'.defers = [] ∧ ∃ v, (results fd a'.tmps).run P w' = .ok v w' ∧ ∃ vs, v = resVal vs ∧ Res cfg.ty A (KO.vars h.ob) fi.rk r vs w' := by
        intro g' st' hr' hk
        obtain ⟨vs, q1, q2⟩ := ret_ok hty hr' hmm hk k3
        exact ⟨hr'.df, _, q1, vs, rfl, q2⟩
      cases ex with
      | normal =>
        obtain ⟨g', st', hr', hk⟩ := hq
        exact fin g' st' hr' hk
      | ret =>
        obtain ⟨g', st', hr', hk⟩ := hq
        exact fin g' st' hr' hk
      | exit id =>
        obtain ⟨_, _, _, hk, _⟩ := hq
        simp at hk
      | goto l => exact hq.elim
      | panic c => exact hq.elim
      | outgrown => exact hq.elim
end
section
variable {P : Program} {ty : Nat → Option TI} {fn : Nat → Option FI} {cl : Nat → Hint → List DC → Out} {A : An} {w : World}
def Flat : List KC → List Value → List Value → Prop
  | [], [], vs => vs = []
  | .one _ :: ks, u :: us, vs => ∃ r, vs = u :: r ∧ Flat ks us r
  | .agg l :: ks, u :: us, vs => ∃ x r, u = .agg (List.toArray x) ∧ x.length = l.length ∧ vs = x ++ r ∧ Flat ks us r
  | _, _, _ => False
theorem srcT_flat {g : Gh} {H : List HS} : ∀ {ks : List KC} {cs : List C} {p : List S} {us : List Value}, srcT ks cs = some p → us.length = cs.length → (∀ (i : Nat) (c : C) (v : Value), cs[i]? = some c → us[i]? = some v → CR ty g H w c v) →
    ∃ vs : List Value, SRL ty g H w p vs ∧ Flat ks us vs
  | [], [], p, us, e, hl, hc => by
    simp only [srcT, Option.some.injEq] at e
    subst e
    have : us = [] := List.eq_nil_of_length_eq_zero hl
    subst this
    exact ⟨[], trivial, rfl⟩
  | k :: ks, c :: cs, p, us, e, hl, hc => by
    match us, hl with
    | u :: us, hl =>
      have hcs : ∀ (i : Nat) (c : C) (v : Value), cs[i]? = some c → us[i]? = some v → CR ty g H w c v := fun i c v h1 h2 => hc (i + 1) c v h1 h2
      have hl' : us.length = cs.length := by simpa using hl
      have hc0 := hc 0 c u rfl rfl
      unfold srcT at e
      split at e
      · rename_i heq _; simp at heq
      · rename_i ks' c' cs' hk hcc
        simp only [List.cons.injEq] at hk hcc
        obtain ⟨rfl, rfl⟩ := hk
        obtain ⟨rfl, rfl⟩ := hcc
        split at e
        · rename_i r hr
          simp only [Option.some.injEq] at e
          subst e
          obtain ⟨vs, h1, h2⟩ := srcT_flat hr hl' hcs
          exact ⟨u :: vs, ⟨trivial, h1⟩, vs, rfl, h2⟩
        · simp at e
      · rename_i k1 ks' s cs' _ hk hcc
        simp only [List.cons.injEq] at hk hcc
        obtain ⟨rfl, rfl⟩ := hk
        obtain ⟨rfl, rfl⟩ := hcc
        split at e
        · rename_i r hr
          simp only [Option.some.injEq] at e
          subst e
          obtain ⟨vs, h1, h2⟩ := srcT_flat hr hl' hcs
          exact ⟨u :: vs, ⟨hc0, h1⟩, vs, rfl, h2⟩
        · simp at e
      · rename_i l ks' ss cs' hk hcc
        simp only [List.cons.injEq] at hk hcc
        obtain ⟨rfl, rfl⟩ := hk
        obtain ⟨rfl, rfl⟩ := hcc
        split at e
        · rename_i hlen
          split at e
          · rename_i r hr
            simp only [Option.some.injEq] at e
            subst e
            obtain ⟨xs, hx, hs⟩ := hc0
            obtain ⟨vs, h1, h2⟩ := srcT_flat hr hl' hcs
            exact ⟨xs ++ vs, hs.append h1, xs, vs, hx, by rw [hs.length, hlen], rfl, h2⟩
          · simp at e
        · simp at e
      · simp at e
  | [], _ :: _, _, _, e, _, _ => by simp [srcT] at e
  | .one _ :: _, [], _, _, e, _, _ => by simp [srcT] at e
  | .agg _ :: _, [], _, _, e, _, _ => by simp [srcT] at e
theorem Flat.data : ∀ {ks : List KC} {us vs : List Value}, Flat (ks.map KC.data) us vs → Flat ks us vs
  | [], [], vs, h => h
  | .one k :: ks, u :: us, vs, ⟨r, h1, h2⟩ => ⟨r, h1, Flat.data h2⟩
  | .agg l :: ks, u :: us, vs, ⟨x, r, h1, h2, h3, h4⟩ => ⟨x, r, h1, by simpa using h2, h3, Flat.data h4⟩
  | [], _ :: _, _, h => h.elim
  | .one _ :: _, [], _, h => h.elim
  | .agg _ :: _, [], _, h => h.elim
theorem Flat.length : ∀ {ks : List KC} {us vs : List Value}, Flat ks us vs → us.length = ks.length ∧ vs.length = (ks.flatMap KC.kinds).length
  | [], [], vs, h => by rw [show vs = [] from h]; exact ⟨rfl, rfl⟩
  | .one k :: ks, u :: us, vs, ⟨r, h1, h2⟩ => by
    obtain ⟨a, b⟩ := Flat.length h2
    subst h1
    exact ⟨by simp [a], by simp [KC.kinds, b]⟩
  | .agg l :: ks, u :: us, vs, ⟨x, r, h1, h2, h3, h4⟩ => by
    obtain ⟨a, b⟩ := Flat.length h4
    subst h3
    exact ⟨by simp [a], by simp [KC.kinds, b, h2]⟩
  | [], _ :: _, _, h => h.elim
  | .one _ :: _, [], _, h => h.elim
  | .agg _ :: _, [], _, h => h.elim
theorem Flat.mkT {g : Gh} {H : List HS} (v : List DC) : ∀ {ks : List KC} {us vs : List Value} (n : Nat), Flat ks us vs → SRL ty g H w (mkL v n (ks.flatMap KC.kinds)) vs →
    (mkT v n ks).length = us.length ∧ ∀ (i : Nat) (c : C) (u : Value), (Go.Proofs.QV.mkT v n ks)[i]? = some c → us[i]? = some u → CR ty g H w c u
  | [], [], vs, n, _, _ => ⟨rfl, fun i c u hi => by simp [Go.Proofs.QV.mkT] at hi⟩
  | .one k :: ks, u :: us, vs, n, ⟨r, h1, h2⟩, hs => by
    subst h1
    simp only [List.flatMap_cons, KC.kinds, List.singleton_append, mkL] at hs
    obtain ⟨q1, q2⟩ := Flat.mkT v (n + k.cnt) h2 hs.2
    refine ⟨by simp [Go.Proofs.QV.mkT, q1], fun i c u' hi hu => ?_⟩
    cases i with
    | zero =>
      simp only [Go.Proofs.QV.mkT, List.getElem?_cons_zero, Option.some.injEq] at hi hu
      subst hi
      subst hu
      exact hs.1
    | succ i =>
      simp only [Go.Proofs.QV.mkT, List.getElem?_cons_succ] at hi hu
      exact q2 i c u' hi hu
  | .agg l :: ks, u :: us, vs, n, ⟨x, r, h1, h2, h3, h4⟩, hs => by
    subst h3
    simp only [List.flatMap_cons, KC.kinds, mkL_append] at hs
    obtain ⟨hh1, hh2⟩ := hs.unappend (by rw [mkL_length, h2])
    obtain ⟨q1, q2⟩ := Flat.mkT v _ h4 hh2
    refine ⟨by simp [Go.Proofs.QV.mkT, q1], fun i c u' hi hu => ?_⟩
    cases i with
    | zero =>
      simp only [Go.Proofs.QV.mkT, List.getElem?_cons_zero, Option.some.injEq] at hi hu
      subst hi
      subst hu
      exact ⟨x, h1, hh1⟩
    | succ i =>
      simp only [Go.Proofs.QV.mkT, List.getElem?_cons_succ] at hi hu
      exact q2 i c u' hi hu
  | [], _ :: _, _, _, h, _ => h.elim
  | .one _ :: _, [], _, _, h, _ => h.elim
  | .agg _ :: _, [], _, _, h, _ => h.elim
def PF (ty : Nat → Option TI) (g : Gh) (H : List HS) (w : World) (ids : List Nat) (ks : List K1) (vs : List Value) : Prop :=
  ∀ (i : Nat) (k : K1) (u : Value), ks[i]? = some k → vs[i]? = some u →
    (∀ m off, k = .ptr m off → off = 0 ∧ ∃ id, ids[m]? = some id ∧ SR ty g H w (.ptr id 0) u) ∧
    (∀ f caps, k = .fn f caps → ∃ caps0 : List Nat, SR ty g H w (.fn f caps0) u ∧ caps.length = caps0.length ∧ ∀ (j m : Nat), caps[j]? = some m → ids[m]? = caps0[j]?)
theorem CT.k1_plain (t : CT) : (∀ m off, t.k1 ≠ .ptr m off) ∧ (∀ f caps, t.k1 ≠ .fn f caps) ∧ t.k1.data = t.k1 ∧ t.k1.cnt = 1 ∧ t.k1.ids = [] ∧ t.k1.pids = [] := by
  cases t <;> exact ⟨fun _ _ h => by simp [CT.k1] at h, fun _ _ h => by simp [CT.k1] at h, rfl, rfl, rfl, rfl⟩
theorem argK_pf {g : Gh} {H : List HS} {ids : List Nat} : ∀ {ps : List PK} {cs : List C} {n r : Nat} {kcs : List KC} {us vs : List Value}, argK n r ps cs = some kcs → Flat kcs us vs →
    (∀ (i : Nat) (c : C) (v : Value), cs[i]? = some c → us[i]? = some v → CR ty g H w c v) → (∀ (j id : Nat), (argIds ps cs)[j]? = some id → ids[n + j]? = some id) → PF ty g H w ids (kcs.flatMap KC.kinds) vs
  | [], [], n, r, kcs, us, vs, e, hf, hc, hi => by
    simp only [argK, Option.some.injEq] at e
    subst e
    intro i k u h
    simp at h
  | p :: ps, c :: cs, n, r, kcs, us, vs, e, hf, hc, hi => by
    have one : ∀ (k1 : K1) (n' r' : Nat) (l : List KC), argK n' r' ps cs = some l → kcs = .one k1 :: l → (∀ (j id : Nat), (argIds ps cs)[j]? = some id → ids[n' + j]? = some id) →
        (∀ u, CR ty g H w c u → (∀ m off, k1 = .ptr m off → off = 0 ∧ ∃ id, ids[m]? = some id ∧ SR ty g H w (.ptr id 0) u) ∧
          (∀ f caps, k1 = .fn f caps → ∃ caps0 : List Nat, SR ty g H w (.fn f caps0) u ∧ caps.length = caps0.length ∧ ∀ (j m : Nat), caps[j]? = some m → ids[m]? = caps0[j]?)) →
        PF ty g H w ids (kcs.flatMap KC.kinds) vs := by
      intro k1 n' r' l hl hk hids hk1
      subst hk
      match us, hf with
      | u :: us, ⟨rr, h1, h2⟩ =>
        subst h1
        have ih := argK_pf hl h2 (fun i c v a b => hc (i + 1) c v a b) hids
        intro i k x hik hix
        simp only [List.flatMap_cons, KC.kinds, List.singleton_append] at hik
        cases i with
        | zero =>
          simp only [List.getElem?_cons_zero, Option.some.injEq] at hik hix
          subst hik
          subst hix
          exact hk1 u (hc 0 c u rfl rfl)
        | succ i =>
          simp only [List.getElem?_cons_succ] at hik hix
          exact ih i k x hik hix
    cases p with
    | ct t =>
      simp only [argK] at e
      split at e
      · rename_i l hl
        simp only [Option.some.injEq] at e
        refine one t.k1 n r l hl e.symm (by simpa [argIds] using hi) fun u _ => ⟨fun m off h => absurd h ((CT.k1_plain t).1 m off), fun f caps h => absurd h ((CT.k1_plain t).2.1 f caps)⟩
      · simp at e
    | ag ts =>
      simp only [argK] at e
      split at e
      · rename_i l hl
        simp only [Option.some.injEq] at e
        subst e
        match us, hf with
        | u :: us, ⟨x, rr, h1, h2, h3, h4⟩ =>
          subst h3
          have ih := argK_pf hl h4 (fun i c v a b => hc (i + 1) c v a b) (by simpa [argIds] using hi)
          intro i k y hik hiy
          simp only [List.flatMap_cons, KC.kinds] at hik
          have hlen : (ts.map CT.k1).length = x.length := h2.symm
          by_cases hlt : i < x.length
          · rw [List.getElem?_append_left (by omega), List.getElem?_map] at hik
            cases ht : ts[i]? with
            | none => rw [ht] at hik; simp at hik
            | some t =>
              rw [ht] at hik
              simp only [Option.map_some, Option.some.injEq] at hik
              subst hik
              exact ⟨fun m off h => absurd h ((CT.k1_plain t).1 m off), fun f caps h => absurd h ((CT.k1_plain t).2.1 f caps)⟩
          · rw [List.getElem?_append_right (by omega)] at hik hiy
            rw [hlen] at hik
            exact ih _ k y hik hiy
      · simp at e
    | mv el =>
      simp only [argK] at e
      split at e
      · rename_i l hl
        simp only [Option.some.injEq] at e
        exact one (.own el r) n (r + 1) l hl e.symm (by simpa [argIds] using hi) fun u _ => ⟨fun m off h => by simp at h, fun f caps h => by simp at h⟩
      · simp at e
    | ptr =>
      cases c with
      | one s =>
        cases s with
        | ptr id0 off0 =>
          cases off0 with
          | succ _ => simp [argK] at e
          | zero =>
            simp only [argK] at e
            split at e
            · rename_i l hl
              simp only [Option.some.injEq] at e
              refine one (.ptr n 0) (n + 1) r l hl e.symm (fun j id hj => ?_) fun u hu => ⟨fun m off h => ?_, fun f caps h => by simp at h⟩
              · rw [Nat.add_assoc, Nat.add_comm 1 j]
                exact hi (j + 1) id (by simpa [argIds] using hj)
              · simp only [K1.ptr.injEq] at h
                obtain ⟨rfl, rfl⟩ := h
                exact ⟨rfl, id0, by have := hi 0 id0 (by simp [argIds]); simpa using this, hu⟩
            · simp at e
        | _ => simp [argK] at e
      | _ => simp [argK] at e
    | fn =>
      cases c with
      | one s =>
        cases s with
        | fn f0 caps0 =>
          simp only [argK] at e
          split at e
          · rename_i l hl
            simp only [Option.some.injEq] at e
            refine one (.fn f0 (List.range' n caps0.length)) (n + caps0.length) r l hl e.symm (fun j id hj => ?_) fun u hu => ⟨fun m off h => by simp at h, fun f caps h => ?_⟩
            · rw [Nat.add_assoc]
              exact hi (caps0.length + j) id (by simp only [argIds]; rw [List.getElem?_append_right (by omega), Nat.add_sub_cancel_left]; exact hj)
            · simp only [K1.fn.injEq] at h
              obtain ⟨rfl, rfl⟩ := h
              refine ⟨caps0, hu, by simp, fun j m hj => ?_⟩
              have hjl : j < caps0.length := by
                rcases Nat.lt_or_ge j caps0.length with h' | h'
                · exact h'
                · rw [List.getElem?_eq_none (by simpa using h')] at hj; simp at hj
              rw [List.getElem?_range' hjl] at hj
              simp only [Nat.one_mul, Option.some.injEq] at hj
              rw [← hj, List.getElem?_eq_getElem hjl]
              exact hi j _ (by simp only [argIds]; rw [List.getElem?_append_left hjl, List.getElem?_eq_getElem hjl])
          · simp at e
        | _ => simp [argK] at e
      | _ => simp [argK] at e
  | [], _ :: _, _, _, _, _, _, e, _, _, _ => by simp [argK] at e
  | p :: _, [], _, _, _, _, _, e, _, _, _ => by cases p <;> simp [argK] at e
theorem objK_ok {H : List HS} : ∀ {ids : List Nat} {kos : List KO}, objK ty H ids = some kos → kos.length = ids.length ∧ (∀ (j : Nat) (k : KO), kos[j]? = some k → ∃ t l, k = .var t l) ∧ (∀ id ∈ ids, isVar H id) ∧ ∀ k ∈ kos.flatMap KO.kinds, ∃ t : CT, k = t.k1
  | [], kos, e => by
    simp only [objK, Option.some.injEq] at e
    subst e
    exact ⟨rfl, fun j k h => by simp at h, fun _ h => by simp at h, fun _ h => by simp at h⟩
  | id :: ids, kos, e => by
    simp only [objK] at e
    split at e
    · rename_i t cs hv
      split at e
      · rename_i ti l hti hl
        simp only [Option.some.injEq] at e
        subst e
        obtain ⟨h1, h2, h3, h4⟩ := objK_ok hl
        refine ⟨by simp [h1], fun j k hj => ?_, fun i hi => ?_, fun k hk => ?_⟩
        · cases j with
          | zero => simp only [List.getElem?_cons_zero, Option.some.injEq] at hj; exact ⟨_, _, hj.symm⟩
          | succ j => exact h2 j k (by simpa using hj)
        · rcases List.mem_cons.1 hi with rfl | hi
          · exact ⟨_, _, hv⟩
          · exact h3 i hi
        · simp only [List.flatMap_cons, List.mem_append, KO.kinds, List.mem_map] at hk
          rcases hk with ⟨t, _, rfl⟩ | hk
          · exact ⟨t, rfl⟩
          · exact h4 k hk
      · simp at e
    · simp at e
theorem vars_all : ∀ {kos : List KO} (n : Nat), (∀ (j : Nat) (k : KO), kos[j]? = some k → ∃ t l, k = .var t l) → KO.vars (kos ++ List.replicate n .u) = kos
  | [], n, _ => by
    cases n <;> simp [KO.vars, List.replicate_succ]
  | k :: kos, n, h => by
    obtain ⟨t, l, rfl⟩ := h 0 k rfl
    rw [List.cons_append, KO.vars, vars_all n fun j k hj => h (j + 1) k (by simpa using hj)]
theorem srcV_ok {g : Gh} {H : List HS} {tm : List C} {a : Act} (h : Rel ty A g ⟨tm, H⟩ a w) (b : Nat → Nat) : ∀ {ids : List Nat} {kos : List KO} {q : List S} {j0 : Nat}, srcV H ids kos = some q → (∀ j id, ids[j]? = some id → b (j0 + j) = g.blk id) →
    ∃ us, SRL ty g H w q us ∧ OV w b j0 kos us ∧ us.length = (kos.flatMap KO.kinds).length
  | [], [], q, j0, e, hb => by
    simp only [srcV, Option.some.injEq] at e
    subst e
    exact ⟨[], trivial, rfl, rfl⟩
  | id :: ids, .var t l :: kos, q, j0, e, hb => by
    simp only [srcV] at e
    split at e
    · rename_i t' cs hv
      split at e
      · rename_i hc
        obtain ⟨rfl, hc⟩ := hc
        split at e
        · rename_i r hr
          simp only [Option.some.injEq] at e
          subst e
          obtain ⟨us, h1, h2, h3⟩ := srcV_ok h b (j0 := j0 + 1) hr fun j i hj => by
            have := hb (j + 1) i (by simpa using hj)
            rw [show j0 + 1 + j = j0 + (j + 1) by omega]
            exact this
          obtain ⟨xs, k1, k2, k3, k4⟩ := h.ob id _ hv
          have := hb 0 id rfl
          rw [Nat.add_zero] at this
          exact ⟨xs ++ us, k2.append h1, ⟨xs, us, rfl, by rw [k2.length, hc], by rw [this]; exact k1, k4, h2⟩, by simp [KO.kinds, h3, k2.length, hc]⟩
        · simp at e
      · simp at e
    · simp at e
  | [], _ :: _, _, _, e, _ => by simp [srcV] at e
  | _ :: _, [], _, _, e, _ => by simp [srcV] at e
  | _ :: _, .u :: _, _, _, e, _ => by simp [srcV] at e
theorem mkO_ov {g : Gh} {H : List HS} (b : Nat → Nat) (v : List DC) (ks0 : List K1) (rest : List KO) : ∀ {kos : List KO} {us : List Value} {j0 n id : Nat}, OV w b j0 kos us → SRL ty g H w (mkL v n (kos.flatMap KO.kinds)) us →
    ∀ (i t : Nat) (cs : List S), i < kos.length → (mkO v ks0 n id (kos ++ rest))[i]? = some (.live (.var t cs)) → ∃ us' : List Value, w.heap[b (j0 + i)]? = some (.cells us'.toArray t (0, 0)) ∧ SRL ty g H w cs us' ∧ ∀ u ∈ us', u.oneCell' = true
  | [], us, j0, n, id, _, _, i, t, cs, hi, _ => by simp at hi
  | .var t l :: kos, us, j0, n, id, ⟨u1, u2, h1, h2, h3, h4, h5⟩, hs, i, t', cs, hi, hg => by
    subst h1
    simp only [List.flatMap_cons, KO.kinds, mkL_append] at hs
    obtain ⟨hh1, hh2⟩ := hs.unappend (by rw [mkL_length, h2])
    cases i with
    | zero =>
      simp only [List.cons_append, mkO, List.getElem?_cons_zero, Option.some.injEq, HS.live.injEq, Obj'.var.injEq] at hg
      obtain ⟨rfl, rfl⟩ := hg
      exact ⟨u1, h3, hh1, h4⟩
    | succ i =>
      rw [show j0 + (i + 1) = j0 + 1 + i by omega]
      exact mkO_ov b v ks0 rest h5 hh2 i t' cs (by simpa using hi) (by simpa [mkO] using hg)
  | .u :: _, _, _, _, _, h, _, _, _, _, _, _ => h.elim
theorem data_cnt (k : K1) : k.data.cnt = k.cnt := by cases k <;> rfl
theorem FL_srl2 {g g' : Gh} {H0 H H' : List HS} {v : List DC} (hI : ∀ b, g.I b → g'.I b) : ∀ {n : Nat} {ks : List K1} {us : List Value}, FL ty A g H0 H w v n (ks.map K1.data) us →
    (∀ (i e id : Nat) (u : Value), ks[i]? = some (.own e id) → us[i]? = some u → nf H' id ∧ g'.val id = u) →
    (∀ (i m off : Nat) (u : Value), ks[i]? = some (.ptr m off) → us[i]? = some u → SR ty g' H' w (.ptr m off) u) →
    (∀ (i f : Nat) (caps : List Nat) (u : Value), ks[i]? = some (.fn f caps) → us[i]? = some u → SR ty g' H' w (.fn f caps) u) → SRL ty g' H' w (mkL v n ks) us
  | _, [], [], _, _, _, _ => trivial
  | n, k :: ks, u :: us, ⟨⟨dd, hd, hv, hn⟩, hf⟩, ho, hp, hfn => by
    have hf' : FL ty A g H0 H w v (n + k.cnt) (ks.map K1.data) us := by rw [← data_cnt]; exact hf
    refine ⟨?_, FL_srl2 hI hf' (fun i e id x h1 h2 => ho (i + 1) e id x (by simpa using h1) (by simpa using h2)) (fun i m off x h1 h2 => hp (i + 1) m off x (by simpa using h1) (by simpa using h2))
      (fun i f caps x h1 h2 => hfn (i + 1) f caps x (by simpa using h1) (by simpa using h2))⟩
    have h0 : 0 < k.data.cnt → v.getD n d0 = dd.getD 0 d0 := fun h => by simpa using hv 0 h
    cases k with
    | u => trivial
    | b =>
      obtain ⟨x, rfl, rfl⟩ := hn
      simp only [K1.mk, SR]
      rw [h0 (by simp [K1.cnt, K1.data])]
      rfl
    | i kd =>
      obtain ⟨x, rfl, rfl⟩ := hn
      simp only [K1.mk, SR]
      rw [h0 (by simp [K1.cnt, K1.data])]
      rfl
    | s =>
      obtain ⟨x, rfl, rfl⟩ := hn
      simp only [K1.mk, SR]
      rw [h0 (by simp [K1.cnt, K1.data])]
      rfl
    | sl e =>
      obtain ⟨l, F, rfl, h1, h2⟩ := hn
      simp only [K1.mk, SR]
      rw [h0 (by simp [K1.cnt, K1.data])]
      exact ⟨F, h1, fun b hb => hI b (h2 b hb)⟩
    | own e id =>
      obtain ⟨l, rfl, hl⟩ := hn
      obtain ⟨h1, h2⟩ := ho 0 e id u rfl rfl
      exact ⟨h1, hl.row.one, fun _ => h2.symm⟩
    | ptr m off => exact hp 0 m off u rfl rfl
    | fn f caps => exact hfn 0 f caps u rfl rfl
    | nil => exact hn.2
  | _, [], _ :: _, h, _, _, _ => h.elim
  | _, _ :: _, [], h, _, _, _ => h.elim
theorem ownAt_data (v : List DC) (id : Nat) : ∀ (n : Nat) (ks : List K1), ownAt v id n (ks.map K1.data) = ownAt v id n ks
  | n, [] => rfl
  | n, k :: ks => by
    cases k <;> simp only [List.map_cons, K1.data, ownAt, K1.cnt, ownAt_data v id]
theorem valAt_data (id : Nat) : ∀ (ks : List K1) (us : List Value), valAt id (ks.map K1.data) us = valAt id ks us
  | [], us => rfl
  | k :: ks, [] => by cases k <;> rfl
  | k :: ks, u :: us => by cases k <;> simp only [List.map_cons, K1.data, valAt, valAt_data id ks us]
theorem own_data {ks : List K1} {i e id : Nat} : (ks.map K1.data)[i]? = some (.own e id) ↔ ks[i]? = some (.own e id) := by
  rw [List.getElem?_map]
  cases h : ks[i]? with
  | none => simp
  | some k => cases k <;> simp [K1.data]
end
section
variable {P : Program} {ty : Nat → Option TI} {fn : Nat → Option FI} {cl : Nat → Hint → List DC → Out} {A : An} {w : World}
theorem kinds_data : ∀ kcs : List KC, kcs.flatMap (fun k => k.data.kinds) = (kcs.flatMap KC.kinds).map K1.data
  | [] => rfl
  | .one k :: l => by rw [List.flatMap_cons, kinds_data l, List.flatMap_cons, List.map_append]; rfl
  | .agg ks :: l => by rw [List.flatMap_cons, kinds_data l, List.flatMap_cons, List.map_append]; rfl
theorem map_data_ct {ks : List K1} (h : ∀ k ∈ ks, ∃ t : CT, k = t.k1) : ks.map K1.data = ks := by
  induction ks with
  | nil => rfl
  | cons k ks ih =>
    obtain ⟨t, rfl⟩ := h k (by simp)
    rw [List.map_cons, (CT.k1_plain t).2.2.1, ih fun k hk => h k (by simp [hk])]
theorem flatMap_u (n : Nat) : (List.replicate n KO.u).flatMap KO.kinds = [] := by
  induction n with
  | zero => rfl
  | succ n ih => rw [List.replicate_succ, List.flatMap_cons, ih]; rfl
theorem FL_own {g : Gh} {H0 H : List HS} {v : List DC} : ∀ {n : Nat} {ks : List K1} {us : List Value} {i e id : Nat} {u : Value}, FL ty A g H0 H w v n ks us → ks[i]? = some (.own e id) → us[i]? = some u → ∃ l, Loose ty A g (srcDom g H0 u) H w e l u
  | _, [], [], i, e, id, u, _, h, _ => by simp at h
  | n, k :: ks, x :: us, 0, e, id, u, ⟨⟨dd, _, _, hn⟩, _⟩, h1, h2 => by
    simp only [List.getElem?_cons_zero, Option.some.injEq] at h1 h2
    subst h1
    subst h2
    obtain ⟨l, _, hl⟩ := hn
    exact ⟨l, hl⟩
  | n, k :: ks, x :: us, i + 1, e, id, u, ⟨_, hf⟩, h1, h2 => by
    simp only [List.getElem?_cons_succ] at h1 h2
    exact FL_own hf h1 h2
  | _, [], _ :: _, _, _, _, _, h, _, _ => h.elim
  | _, _ :: _, [], _, _, _, _, h, _, _ => h.elim
theorem argK_plain : ∀ {ps : List PK} {cs : List C} {n r : Nat} {l : List KC}, ps.all PK.plain = true → argK n r ps cs = some l → argIds ps cs = [] ∧ ∀ k ∈ l.flatMap KC.kinds, ∃ t : CT, k = t.k1
  | [], [], n, r, l, _, e => by
    simp only [argK, Option.some.injEq] at e
    subst e
    exact ⟨rfl, fun k h => by simp at h⟩
  | p :: ps, c :: cs, n, r, l, hp, e => by
    simp only [List.all_cons, Bool.and_eq_true] at hp
    cases p with
    | ct t =>
      simp only [argK] at e
      split at e
      · rename_i l' hl
        simp only [Option.some.injEq] at e
        subst e
        obtain ⟨h1, h2⟩ := argK_plain hp.2 hl
        refine ⟨by simpa [argIds] using h1, fun k hk => ?_⟩
        simp only [List.flatMap_cons, KC.kinds, List.singleton_append, List.mem_cons] at hk
        rcases hk with rfl | hk
        · exact ⟨t, rfl⟩
        · exact h2 k hk
      · simp at e
    | ag ts =>
      simp only [argK] at e
      split at e
      · rename_i l' hl
        simp only [Option.some.injEq] at e
        subst e
        obtain ⟨h1, h2⟩ := argK_plain hp.2 hl
        refine ⟨by simpa [argIds] using h1, fun k hk => ?_⟩
        simp only [List.flatMap_cons, KC.kinds, List.mem_append, List.mem_map] at hk
        rcases hk with ⟨t, _, rfl⟩ | hk
        · exact ⟨t, rfl⟩
        · exact h2 k hk
      · simp at e
    | _ => simp [PK.plain] at hp
  | [], _ :: _, _, _, _, _, e => by simp [argK] at e
  | p :: _, [], _, _, _, _, e => by cases p <;> simp [argK] at e
theorem nodup_get : ∀ {l : List Nat} {i j x : Nat}, nodupB l = true → l[i]? = some x → l[j]? = some x → i = j
  | [], i, j, x, _, h, _ => by simp at h
  | a :: l, 0, 0, x, _, _, _ => rfl
  | a :: l, 0, j + 1, x, hn, h1, h2 => by
    simp only [List.getElem?_cons_zero, Option.some.injEq] at h1
    simp only [List.getElem?_cons_succ] at h2
    subst h1
    exact absurd (List.mem_of_getElem? h2) (nodupB_cons hn).1
  | a :: l, i + 1, 0, x, hn, h1, h2 => by
    simp only [List.getElem?_cons_zero, Option.some.injEq] at h2
    simp only [List.getElem?_cons_succ] at h1
    subst h2
    exact absurd (List.mem_of_getElem? h1) (nodupB_cons hn).1
  | a :: l, i + 1, j + 1, x, hn, h1, h2 => by
    simp only [List.getElem?_cons_succ] at h1 h2
    rw [nodup_get (nodupB_cons hn).2 h1 h2]
structure Begun (A : An) (g1 : Gh) (H1 : List HS) (w : World) (ids : List Nat) (Ac : An) : Prop where
  w0 : Ac.w0 = w
  m : Ac.m = ids.length
  pb : ∀ (j id : Nat), ids[j]? = some id → Ac.pb j = g1.blk id
  Pv : ∀ b, Ac.Pv b → ∃ id ∈ ids, b = g1.blk id
  Pm : ∀ b, Ac.Pm b → b < w.heap.size ∧ ¬ g1.I b ∧ (A.w0.heap.size ≤ b ∨ A.Pm b) ∧ ∀ i p, getH H1 i = .live p → ¬ oblk g1 i p b
  var : ∀ id ∈ ids, isVar H1 id
theorem start_ok {g : Gh} {tm : List C} {H H1 : List HS} {a : Act} (h : Rel ty A g ⟨tm, H⟩ a w) {fi : FI} {as : List C} {vals : List Value} (hv : vals.length = as.length)
    (hc : ∀ (i : Nat) (c : C) (v : Value), as[i]? = some c → vals[i]? = some v → CR ty g H w c v) {kcs : List KC} {kos : List KO} {p q : List S} {v0 : List DC} {nr : Nat}
    (e1 : argK 0 (argIds fi.pk as).length fi.pk as = some kcs) (e2 : objK ty H (argIds fi.pk as) = some kos) (e3 : srcT (kcs.map KC.data) as = some p) (e4 : srcV H (argIds fi.pk as) kos = some q)
    (e5 : normL ty H (kcs.flatMap (fun k => k.data.kinds) ++ kos.flatMap KO.kinds) (p ++ q) = some (v0, H1)) (hn : nodupB (argIds fi.pk as) = true) (hok : ({ tm := kcs, ob := kos ++ List.replicate nr .u } : Hint).ok = true) :
    ∃ (g1 : Gh) (Ac : An) (gc : Gh), Rel ty A g1 ⟨tm, H1⟩ a w ∧ Src g g1 H H1 ∧ Begun A g1 H1 w (argIds fi.pk as) Ac ∧ Ac.I0 = g1.I ∧ (fi.pk.all PK.plain = true → ∀ b, ¬ Ac.Pm b) ∧
      Rel ty Ac gc (startSt fi { tm := kcs, ob := kos ++ List.replicate nr .u } v0) { tmps := vals.toArray ++ Array.replicate (fi.ntmps - vals.toArray.size) undef, defers := [] } w ∧ vals.length = kcs.length := by
  generalize hids : argIds fi.pk as = ids at *
  let b : Nat → Nat := fun j => g.blk (ids.getD j 0)
  have hb : ∀ (j id : Nat), ids[j]? = some id → b j = g.blk id := fun j id hj => by simp only [b]; rw [List.getD_eq_getElem?_getD, hj]; rfl
  obtain ⟨vs1, a1, a2⟩ := srcT_flat (us := vals) e3 hv hc
  have a2 := a2.data
  obtain ⟨k1, k2, k3, k4⟩ := objK_ok e2
  obtain ⟨vs2, b1, b2, b3⟩ := srcV_ok h b (j0 := 0) e4 (fun j id hj => by rw [Nat.zero_add]; exact hb j id hj)
  obtain ⟨g1, r1, s1, f1, ap, l1, o1⟩ := normL_ok (H0 := H) [] [] h (fun _ h => h) (src_uniq h) (src_nil h) (a1.append b1) e5
  have hsd := srcDom_same s1.val s1.dom H
  simp only [List.nil_append, List.append_nil, List.length_nil] at f1
  let hint : Hint := { tm := kcs, ob := kos ++ List.replicate nr .u }
  have hkinds : hint.kinds = kcs.flatMap KC.kinds ++ kos.flatMap KO.kinds := by simp [Hint.kinds, hint, flatMap_u]
  have hdata : kcs.flatMap (fun k => k.data.kinds) ++ kos.flatMap KO.kinds = hint.kinds.map K1.data := by rw [hkinds, List.map_append, kinds_data, map_data_ct k4]
  rw [hdata] at f1 ap o1
  simp only [Hint.ok, Bool.and_eq_true, List.all_eq_true] at hok
  obtain ⟨⟨hnd, hidsok⟩, hpids⟩ := hok
  let gc : Gh := { I := g1.I, blk := b, val := fun id => valAt id hint.kinds (vs1 ++ vs2), dom := fun id => srcDom g H (valAt id hint.kinds (vs1 ++ vs2)) }
  let Ac : An := { w0 := w, I0 := g1.I, Pv := fun x => ∃ id ∈ ids, x = g1.blk id, Pm := fun x => ∃ (i e id : Nat) (u : Value), hint.kinds[i]? = some (.own e id) ∧ (vs1 ++ vs2)[i]? = some u ∧ vblk g H u e x, m := ids.length, pb := b }
  have hloose : ∀ (i e id : Nat) (u : Value), hint.kinds[i]? = some (.own e id) → (vs1 ++ vs2)[i]? = some u → ∃ l, Loose ty A g1 (srcDom g H u) H1 w e l u := fun i e id u h1 h2 => by
    obtain ⟨l, hl⟩ := FL_own f1 (own_data.2 h1) h2
    rw [hsd] at hl
    exact ⟨l, hl⟩
  have hvar1 : ∀ id ∈ ids, isVar H1 id := fun id hid => s1.var id (k3 id hid)
  have hvarI : ∀ id ∈ ids, ¬ g1.I (g1.blk id) := by
    intro id hid hI
    obtain ⟨t, cs, hcs⟩ := hvar1 id hid
    exact oblk_notI r1 hcs rfl hI
  have hbeg : Begun A g1 H1 w ids Ac := by
    refine ⟨rfl, rfl, fun j id hj => by rw [s1.blk]; exact hb j id hj, fun x hx => hx, fun x hx => ?_, hvar1⟩
    obtain ⟨i, e, id, u, h1, h2, h3⟩ := hx
    obtain ⟨l, hl⟩ := hloose i e id u h1 h2
    refine ⟨?_, hl.own x h3⟩
    obtain ⟨j, p, hj, hp⟩ := o1 i e id u (own_data.2 h1) h2 x h3
    exact h.oblk_lt hj hp
  let Hm := mkO v0 hint.kinds (cntL (hint.tm.flatMap KC.kinds)) 0 hint.ob
  have hst : startSt fi hint v0 = ⟨mkT v0 0 kcs ++ List.replicate (fi.ntmps - (mkT v0 0 kcs).length) (.one .undef), Hm ++ List.replicate (fi.nobj - Hm.length) .free⟩ := rfl
  let Hc := Hm ++ List.replicate (fi.nobj - Hm.length) .free
  have hget : ∀ id, ((getH Hc id = .dead ∨ getH Hc id = .free) ∧ hint.ob[id]? = none) ∨ (getH Hc id = ownAt v0 id 0 hint.kinds ∧ hint.ob[id]? = some .u) ∨
      ∃ t l cs, getH Hc id = .live (.var t cs) ∧ hint.ob[id]? = some (.var t l) ∧ Hm[id]? = some (.live (.var t cs)) := by
    intro id
    have hlt : ∀ x, Hm[id]? = some x → getH Hc id = x := by
      intro x hx
      have : id < Hm.length := by
        rcases Nat.lt_or_ge id Hm.length with h' | h'
        · exact h'
        · simp [List.getElem?_eq_none h'] at hx
      simp [getH, Hc, List.getD_eq_getElem?_getD, List.getElem?_append_left this, hx]
    rcases mkO_get v0 hint.kinds hint.ob (cntL (hint.tm.flatMap KC.kinds)) 0 id with ⟨q1, q2⟩ | ⟨q1, q2⟩ | ⟨t, l, cs, q1, q2⟩
    · refine .inl ⟨?_, q2⟩
      have hge : Hm.length ≤ id := by
        rcases Nat.lt_or_ge id Hm.length with h' | h'
        · have := List.getElem?_eq_getElem h'
          rw [show Hm[id]? = none from q1] at this
          simp at this
        · exact h'
      simp only [getH, Hc, List.getD_eq_getElem?_getD]
      rw [List.getElem?_append_right hge]
      by_cases hr : id - Hm.length < fi.nobj - Hm.length
      · right
        rw [List.getElem?_replicate, if_pos hr]
        rfl
      · left
        rw [List.getElem?_replicate, if_neg hr]
        rfl
    · exact .inr (.inl ⟨by simpa using hlt _ q1, q2⟩)
    · exact .inr (.inr ⟨t, l, cs, hlt _ q1, q2, q1⟩)
  have hvarlt : ∀ (id t : Nat) (l : List K1), hint.ob[id]? = some (.var t l) → id < ids.length := by
    intro id t l hid
    rcases Nat.lt_or_ge id kos.length with h' | h'
    · omega
    · simp only [hint] at hid
      rw [List.getElem?_append_right h', List.getElem?_replicate] at hid
      split at hid <;> simp at hid
  have hobv : ∀ (id : Nat), id < ids.length → ∃ t l, hint.ob[id]? = some (.var t l) := by
    intro id hid
    have h1 : id < kos.length := by omega
    obtain ⟨t, l, ht⟩ := k2 id _ (List.getElem?_eq_getElem h1)
    exact ⟨t, l, by simp only [hint]; rw [List.getElem?_append_left h1, List.getElem?_eq_getElem h1, ht]⟩
  have hnfv : ∀ id, id < ids.length → nf Hc id := by
    intro id hid
    obtain ⟨t, l, hob⟩ := hobv id hid
    rcases hget id with ⟨_, q2⟩ | ⟨_, q2⟩ | ⟨t', l', cs, q1, _⟩
    · rw [hob] at q2; simp at q2
    · rw [hob] at q2; simp at q2
    · exact nf_live q1
  have hown : ∀ (i e id : Nat) (u : Value), hint.kinds[i]? = some (.own e id) → (vs1 ++ vs2)[i]? = some u → nf Hc id ∧ gc.val id = u := by
    intro i e id u h1 h2
    refine ⟨?_, valAt_nodup hnd h1 h2⟩
    have hin := hidsok id (mem_ids h1)
    rcases hget id with ⟨_, q2⟩ | ⟨q1, q2⟩ | ⟨t, l, cs, q1, q2, _⟩
    · rw [show (kos ++ List.replicate nr KO.u)[id]? = none from q2] at hin; simp at hin
    · rcases ownAt_ok id f1 with ⟨z1, z2⟩ | ⟨e', l, i', z1, _⟩
      · exact absurd (own_data.2 h1) (z2 i e)
      · rw [ownAt_data] at z1
        exact nf_live (q1.trans z1)
    · exact nf_live q1
  have hpf : PF ty g H w ids hint.kinds (vs1 ++ vs2) := by
    have h1 := argK_pf (ids := ids) e1 a2 hc (fun j id hj => by rw [Nat.zero_add, ← hids]; exact hj)
    intro i k u hik hiu
    rw [hkinds] at hik
    have hl := a2.length.2
    rcases Nat.lt_or_ge i (kcs.flatMap KC.kinds).length with h' | h'
    · rw [List.getElem?_append_left h'] at hik
      rw [List.getElem?_append_left (by omega)] at hiu
      exact h1 i k u hik hiu
    · rw [List.getElem?_append_right h'] at hik
      obtain ⟨t, rfl⟩ := k4 k (List.mem_of_getElem? hik)
      exact ⟨fun m off h => absurd h ((CT.k1_plain t).1 m off), fun f caps h => absurd h ((CT.k1_plain t).2.1 f caps)⟩
  have hsrl : SRL ty gc Hc w (mkL v0 0 hint.kinds) (vs1 ++ vs2) := by
    refine FL_srl2 (g := g1) (g' := gc) (fun _ h => h) f1 hown (fun i m off u h1 h2 => ?_) (fun i f caps u h1 h2 => ?_)
    · obtain ⟨rfl, id, hid, hs⟩ := (hpf i _ u h1 h2).1 m off rfl
      have hm : m < ids.length := by
        rcases Nat.lt_or_ge m ids.length with h' | h'
        · exact h'
        · simp [List.getElem?_eq_none h'] at hid
      refine ⟨hnfv m hm, hs.2.1, fun _ => ?_⟩
      have := hs.2.2 (k3 id (List.mem_of_getElem? hid))
      rw [this]
      simp only [gc]
      rw [hb m id hid]
    · obtain ⟨caps0, ⟨xs, x1, x2, x3⟩, hl, hcap⟩ := (hpf i _ u h1 h2).2 f caps rfl
      refine ⟨xs, x1, by omega, fun j m hj => ?_⟩
      have hjl : j < caps0.length := by
        rcases Nat.lt_or_ge j caps0.length with h' | h'
        · exact h'
        · rw [List.getElem?_eq_none (by omega)] at hj; simp at hj
      have h0 := hcap j m hj
      rw [List.getElem?_eq_getElem hjl] at h0
      have hm : m < ids.length := by
        rcases Nat.lt_or_ge m ids.length with h' | h'
        · exact h'
        · simp [List.getElem?_eq_none h'] at h0
      refine ⟨hnfv m hm, fun _ => ?_⟩
      have := (x3 j _ (List.getElem?_eq_getElem hjl)).2 (k3 _ (List.mem_of_getElem? h0))
      rw [this]
      simp only [gc]
      rw [hb m _ h0]
  rw [hkinds, mkL_append, Nat.zero_add] at hsrl
  obtain ⟨t1, t2⟩ := hsrl.unappend (by rw [a2.length.2, mkL_length])
  obtain ⟨c1, c2⟩ := Flat.mkT v0 0 a2 t1
  have hobj : ∀ id o, getH Hc id = .live o → (∃ t cs us, o = .var t cs ∧ w.heap[b id]? = some (.cells us.toArray t (0, 0)) ∧ SRL ty gc Hc w cs us ∧ (∀ u ∈ us, u.oneCell' = true) ∧ ∃ i, ids[id]? = some i) ∨
      ∃ (e : Nat) (l : List (List DC)) (i : Nat), o = mkRow e l ∧ Loose ty A g1 (gc.dom id) H1 w e l (gc.val id) ∧ hint.kinds[i]? = some (.own e id) ∧ (vs1 ++ vs2)[i]? = some (gc.val id) := by
    intro id o ho
    rcases hget id with ⟨q1 | q1, _⟩ | ⟨q1, _⟩ | ⟨t, l, cs, q1, q2, q3⟩
    · rw [q1] at ho; simp at ho
    · rw [q1] at ho; simp at ho
    · rcases ownAt_ok id f1 with ⟨z1, _⟩ | ⟨e, l, i, z1, z2, z3, z4⟩
      · rw [ownAt_data] at z1
        rw [q1, z1] at ho; simp at ho
      · rw [ownAt_data] at z1
        rw [valAt_data] at z2 z4
        rw [hsd] at z2
        rw [q1, z1] at ho
        simp only [HS.live.injEq] at ho
        exact .inr ⟨e, l, i, ho.symm, z2, own_data.1 z3, z4⟩
    · rw [q1] at ho
      simp only [HS.live.injEq] at ho
      have hlt := hvarlt id t l q2
      obtain ⟨us, u1, u2, u3⟩ := mkO_ov b v0 hint.kinds (List.replicate nr .u) b2 t2 id t cs (by omega) q3
      rw [Nat.zero_add] at u1
      exact .inl ⟨t, cs, us, ho.symm, u1, u2, u3, ids[id], List.getElem?_eq_getElem hlt⟩
  refine ⟨g1, Ac, gc, r1, s1, hbeg, rfl, fun hpl x hx => ?_, ?_, a2.length.1⟩
  · obtain ⟨i, e, id, u, h1, _⟩ := hx
    have hp := (argK_plain hpl e1).2
    rw [hkinds] at h1
    have := List.mem_of_getElem? h1
    rw [List.mem_append] at this
    rcases this with hk | hk
    · obtain ⟨t, ht⟩ := hp _ hk
      cases t <;> simp [CT.k1] at ht
    · obtain ⟨t, ht⟩ := k4 _ hk
      cases t <;> simp [CT.k1] at ht
  · rw [hst]
    refine ⟨?_, fun i c x h1 h2 => ?_, fun id o ho => ?_, fun i j o p x hij hi hj hx hx' => ?_, r1.lt, fun x hx => .inl hx, fun id o x ho hx => ?_, fun j hj => hnfv j hj, fun j hj hvj => rfl, ⟨rfl, rfl, rfl, Nat.le_refl _, fun _ _ _ _ => rfl⟩, rfl⟩
    · simp [c1]
    · simp only [Array.getElem?_append, List.size_toArray, List.getElem?_toArray] at h2
      rcases Nat.lt_or_ge i (mkT v0 0 kcs).length with h' | h'
      · rw [List.getElem?_append_left h'] at h1
        rw [if_pos (by omega)] at h2
        exact c2 i c x h1 h2
      · rw [List.getElem?_append_right h', List.getElem?_replicate] at h1
        split at h1
        · simp only [Option.some.injEq] at h1
          subst h1
          trivial
        · simp at h1
    · rcases hobj id o ho with ⟨t, cs, us, rfl, q1, q2, q3, i, q4⟩ | ⟨e, l, i, rfl, q1, q2, q3⟩
      · refine ⟨us, q1, q2, ?_, q3⟩
        have := hvarI i (List.mem_of_getElem? q4)
        simp only [gc]
        rw [hb id i q4, ← s1.blk]
        exact this
      · exact RowAt.or q1.row fun x hx => (q1.own x hx).1
    · rcases hobj i o hi with ⟨t, cs, us, rfl, q1, q2, q3, n, q4⟩ | ⟨e, l, n, rfl, q1, q2, q3⟩
      · rcases hobj j p hj with ⟨t', cs', us', rfl, q1', q2', q3', n', q4'⟩ | ⟨e', l', n', rfl, q1', q2', q3'⟩
        · obtain ⟨tx, cx, hx1⟩ := k3 n (List.mem_of_getElem? q4)
          obtain ⟨ty', cy, hy1⟩ := k3 n' (List.mem_of_getElem? q4')
          have hne : n ≠ n' := by
            rintro rfl
            exact hij (nodup_get hn q4 q4')
          have hx : b i = x := hx
          have hx' : b j = x := hx'
          rw [hb i n q4] at hx
          rw [hb j n' q4'] at hx'
          exact h.sep n n' _ _ x hne hx1 hy1 (show oblk g n (.var tx cx) x from hx) (show oblk g n' (.var ty' cy) x from hx')
        · obtain ⟨tx, cx, hx1⟩ := hvar1 n (List.mem_of_getElem? q4)
          refine (q1'.own x (oblk_mk.1 hx')).2.2 n _ hx1 ?_
          have hx : b i = x := hx
          rw [hb i n q4] at hx
          show g1.blk n = x
          rw [s1.blk]
          exact hx
      · rcases hobj j p hj with ⟨t', cs', us', rfl, q1', q2', q3', n', q4'⟩ | ⟨e', l', n', rfl, q1', q2', q3'⟩
        · obtain ⟨tx, cx, hx1⟩ := hvar1 n' (List.mem_of_getElem? q4')
          refine (q1.own x (oblk_mk.1 hx)).2.2 n' _ hx1 ?_
          have hx' : b j = x := hx'
          rw [hb j n' q4'] at hx'
          show g1.blk n' = x
          rw [s1.blk]
          exact hx'
        · rcases Nat.lt_trichotomy n n' with hlt | rfl | hlt
          · exact apart_ne ap (own_data.2 q2) q3 (own_data.2 q2') q3' hlt x (oblk_mk.1 hx) (oblk_mk.1 hx')
          · rw [q2] at q2'
            simp only [Option.some.injEq, K1.own.injEq] at q2'
            exact hij q2'.2
          · exact apart_ne ap (own_data.2 q2') q3' (own_data.2 q2) q3 hlt x (oblk_mk.1 hx') (oblk_mk.1 hx)
    · rcases hobj id o ho with ⟨t, cs, us, rfl, q1, q2, q3, i, q4⟩ | ⟨e, l, i, rfl, q1, q2, q3⟩
      · have hx : b id = x := hx
        exact .inr ⟨i, List.mem_of_getElem? q4, by rw [← hx, s1.blk]; exact hb id i q4⟩
      · exact owOk_mk (.inr ⟨i, e, id, _, q2, q3, oblk_mk.1 hx⟩)
end
section
variable {P : Program} {ty : Nat → Option TI} {fn : Nat → Option FI} {cl : Nat → Hint → List DC → Out} {A : An} {w : World}
theorem FL_split {g : Gh} {H0 H : List HS} {v : List DC} : ∀ {n : Nat} {ks ks' : List K1} {us us' : List Value}, FL ty A g H0 H w v n (ks ++ ks') (us ++ us') → us.length = ks.length → FL ty A g H0 H w v n ks us ∧ FL ty A g H0 H w v (n + cntL ks) ks' us'
  | n, [], ks', [], us', h, _ => ⟨trivial, h⟩
  | n, k :: ks, ks', u :: us, us', ⟨h1, h2⟩, hl => by
    obtain ⟨a, b⟩ := FL_split (ks := ks) (us := us) h2 (by simpa using hl)
    exact ⟨⟨h1, a⟩, by rw [cntL, ← Nat.add_assoc]; exact b⟩
  | _, [], _, _ :: _, _, _, hl => by simp at hl
  | _, _ :: _, _, [], _, _, hl => by simp at hl
theorem rkK_cnt (r : RK) (i : Nat) : (r.k1 i).cnt = 1 := by
  cases r with
  | ct c => cases c <;> rfl
  | new e => rfl
theorem rkK_len : ∀ (l : List RK) (i : Nat), (rkK i l).length = l.length ∧ cntL (rkK i l) = l.length
  | [], i => ⟨rfl, rfl⟩
  | r :: l, i => by
    obtain ⟨a, b⟩ := rkK_len l (r.nx i)
    exact ⟨by simp [rkK, a], by simp [rkK, cntL, b, rkK_cnt]; omega⟩
theorem rkK_append : ∀ (l m : List RK) (i : Nat), rkK i (l ++ m) = rkK i l ++ rkK (rkN i l) m
  | [], m, i => rfl
  | r :: l, m, i => by simp [rkK, rkN, rkK_append l m (r.nx i)]
theorem FL_rk {g : Gh} {H0 H : List HS} {v : List DC} {X : List K1} : ∀ {L : List RK} {i j n : Nat} {us : List Value}, FL ty A g H0 H w v n (rkK i L ++ X) us → FL ty A g H0 H w v n (rkK j L ++ X) us
  | [], i, j, n, us, h => h
  | r :: L, i, j, n, [], h => h.elim
  | r :: L, i, j, n, u :: us, h => by
    simp only [rkK, List.cons_append] at h ⊢
    obtain ⟨⟨dd, h1, h2, h3⟩, h4⟩ := h
    rw [rkK_cnt] at h1 h2 h4
    refine ⟨⟨dd, by rw [rkK_cnt]; exact h1, by rw [rkK_cnt]; exact h2, ?_⟩, by rw [rkK_cnt]; exact FL_rk h4⟩
    cases r with
    | ct c => exact h3
    | new e => exact h3
theorem own_rk {X : List K1} : ∀ {L : List RK} {i j n e id : Nat}, (rkK i L ++ X)[n]? = some (.own e id) → ∃ id', (rkK j L ++ X)[n]? = some (.own e id')
  | [], i, j, n, e, id, h => ⟨id, h⟩
  | r :: L, i, j, 0, e, id, h => by
    simp only [rkK, List.cons_append, List.getElem?_cons_zero, Option.some.injEq] at h ⊢
    cases r with
    | ct c => cases c <;> simp [RK.k1, CT.k1] at h
    | new e' =>
      simp only [RK.k1, K1.own.injEq] at h ⊢
      exact ⟨j, h.1, rfl⟩
  | r :: L, i, j, n + 1, e, id, h => by
    simp only [rkK, List.cons_append, List.getElem?_cons_succ] at h ⊢
    exact own_rk h
theorem Apart_rk {B : Value → Nat → Nat → Prop} {X : List K1} : ∀ {L : List RK} {i j : Nat} {us : List Value}, Apart B (rkK i L ++ X) us → Apart B (rkK j L ++ X) us
  | [], i, j, us, h => h
  | r :: L, i, j, [], h => by
    simp only [rkK, List.cons_append]
    cases r with
    | ct c => cases c <;> trivial
    | new e => trivial
  | r :: L, i, j, u :: us, h => by
    simp only [rkK, List.cons_append] at h ⊢
    cases r with
    | ct c => cases c <;> exact Apart_rk (i := i) (j := j) h
    | new e =>
      refine ⟨fun b hb n e' id x hn hx => ?_, Apart_rk (i := i + 1) h.2⟩
      obtain ⟨id', hn'⟩ := own_rk (j := i + 1) hn
      exact h.1 b hb n e' id' x hn' hx
theorem rkK_kind : ∀ {L : List RK} {i : Nat} {k : K1}, k ∈ rkK i L → (∃ t : CT, k = t.k1) ∨ ∃ e id, k = .own e id
  | [], i, k, h => by simp [rkK] at h
  | r :: L, i, k, h => by
    simp only [rkK, List.mem_cons] at h
    rcases h with rfl | h
    · cases r with
      | ct c => exact .inl ⟨c, rfl⟩
      | new e => exact .inr ⟨e, i, rfl⟩
    · exact rkK_kind h
theorem map_data_rk {ks : List K1} (h : ∀ k ∈ ks, (∃ t : CT, k = t.k1) ∨ ∃ e id, k = .own e id) : ks.map K1.data = ks := by
  induction ks with
  | nil => rfl
  | cons k ks ih =>
    rw [List.map_cons, ih fun k hk => h k (by simp [hk])]
    rcases h k (by simp) with ⟨t, rfl⟩ | ⟨e, id, rfl⟩
    · rw [(CT.k1_plain t).2.2.1]
    · rfl
theorem putRows_get (v : List DC) : ∀ {ks : List K1} {n : Nat} {H H2 : List HS}, putRows v n ks H = some H2 →
    nodupB (ks.flatMap K1.ids) = true ∧ (∀ id ∈ ks.flatMap K1.ids, getH H id = .free ∧ getH H2 id = ownAt v id n ks) ∧ ∀ id, id ∉ ks.flatMap K1.ids → getH H2 id = getH H id
  | [], n, H, H2, e => by
    simp only [putRows, Option.some.injEq] at e
    subst e
    exact ⟨rfl, fun id h => by simp at h, fun id _ => rfl⟩
  | k :: ks, n, H, H2, e => by
    have other : putRows v (n + k.cnt) ks H = some H2 → k.ids = [] → (∀ id, ownAt v id n (k :: ks) = ownAt v id (n + k.cnt) ks) →
        nodupB ((k :: ks).flatMap K1.ids) = true ∧ (∀ id ∈ (k :: ks).flatMap K1.ids, getH H id = .free ∧ getH H2 id = ownAt v id n (k :: ks)) ∧ ∀ id, id ∉ (k :: ks).flatMap K1.ids → getH H2 id = getH H id := by
      intro h1 h2 h3
      obtain ⟨a, b, c⟩ := putRows_get v h1
      rw [List.flatMap_cons, h2, List.nil_append]
      exact ⟨a, fun id hid => ⟨(b id hid).1, by rw [h3]; exact (b id hid).2⟩, c⟩
    cases k with
    | own e' id0 =>
      simp only [putRows] at e
      split at e
      · rename_i hf
        obtain ⟨a, b, c⟩ := putRows_get v e
        have hlt := getH_lt_free hf
        have hnot : id0 ∉ ks.flatMap K1.ids := by
          intro hmem
          have := (b id0 hmem).1
          rw [getH_set_same _ hlt] at this
          simp at this
        have hne : ∀ id ∈ ks.flatMap K1.ids, id0 ≠ id := fun id hid h => hnot (h ▸ hid)
        refine ⟨?_, fun id hid => ?_, fun id hid => ?_⟩
        · simp only [List.flatMap_cons, K1.ids, List.singleton_append, nodupB, Bool.and_eq_true, Bool.not_eq_true', List.contains_eq_mem, decide_eq_false_iff_not]
          exact ⟨hnot, a⟩
        · simp only [List.flatMap_cons, K1.ids, List.singleton_append, List.mem_cons] at hid
          rcases hid with rfl | hid
          · refine ⟨hf, ?_⟩
            rw [c id hnot, getH_set_same _ hlt, ownAt, if_pos rfl]
          · obtain ⟨b1, b2⟩ := b id hid
            rw [getH_set_ne _ (hne id hid)] at b1
            refine ⟨b1, ?_⟩
            rw [b2, ownAt, if_neg (hne id hid)]
        · simp only [List.flatMap_cons, K1.ids, List.singleton_append, List.mem_cons, not_or] at hid
          rw [c id hid.2, getH_set_ne _ fun h => hid.1 h.symm]
      · simp at e
    | _ => exact other e rfl fun _ => rfl
theorem putVars_other (v : List DC) : ∀ {ids : List Nat} {kos : List KO} {n : Nat} {H : List HS} {id : Nat}, id ∉ ids → getH (putVars v n ids kos H) id = getH H id
  | [], kos, n, H, id, _ => by cases kos <;> rfl
  | i :: ids, [], n, H, id, _ => rfl
  | i :: ids, .u :: kos, n, H, id, _ => rfl
  | i :: ids, .var t l :: kos, n, H, id, h => by
    simp only [List.mem_cons, not_or] at h
    rw [putVars, putVars_other v h.2, getH_set_ne _ fun k => h.1 k.symm]
theorem putVars_get (v : List DC) {g : Gh} {H' : List HS} (b blk : Nat → Nat) : ∀ {ids : List Nat} {kos : List KO} {n j0 : Nat} {H : List HS} {us : List Value}, nodupB ids = true → OV w b j0 kos us → SRL ty g H' w (mkL v n (kos.flatMap KO.kinds)) us →
    (∀ j id, ids[j]? = some id → b (j0 + j) = blk id) → kos.length = ids.length → (∀ id ∈ ids, id < H.length) →
    ∀ id ∈ ids, ∃ (t : Nat) (cs : List S) (us' : List Value), getH (putVars v n ids kos H) id = .live (.var t cs) ∧ w.heap[blk id]? = some (.cells us'.toArray t (0, 0)) ∧ SRL ty g H' w cs us' ∧ ∀ u ∈ us', u.oneCell' = true
  | [], kos, n, j0, H, us, _, _, _, _, _, _ => fun id h => by simp at h
  | i :: ids, [], n, j0, H, us, _, _, _, _, hl, _ => by simp at hl
  | i :: ids, .u :: kos, n, j0, H, us, _, h, _, _, _, _ => h.elim
  | i :: ids, .var t l :: kos, n, j0, H, us, hn, ⟨u1, u2, h1, h2, h3, h4, h5⟩, hs, hb, hl, hlt => by
    subst h1
    simp only [List.flatMap_cons, KO.kinds, mkL_append] at hs
    obtain ⟨hh1, hh2⟩ := hs.unappend (by rw [mkL_length, h2])
    obtain ⟨n1, n2⟩ := nodupB_cons hn
    intro id hid
    rcases List.mem_cons.1 hid with rfl | hid
    · refine ⟨t, mkL v n l, u1, ?_, ?_, hh1, h4⟩
      · rw [putVars, putVars_other v n1, getH_set_same _ (hlt id (by simp))]
      · have := hb 0 id rfl
        rw [Nat.add_zero] at this
        rw [← this]
        exact h3
    · rw [putVars]
      exact putVars_get v b blk n2 h5 hh2 (fun j k hj => by
        have := hb (j + 1) k (by simpa using hj)
        rw [show j0 + 1 + j = j0 + (j + 1) by omega]
        exact this) (by simpa using hl) (fun k hk => by simp only [setH, List.length_set]; exact hlt k (by simp [hk])) id hid
theorem resT_ok {g : Gh} {H : List HS} (v : List DC) : ∀ {rk : List (Bool × List RK)} {vs us : List Value} {n id : Nat}, RVs rk vs us → SRL ty g H w (mkL v n (rkK id (rk.flatMap Prod.snd))) us →
    vs.length = (resT v n id rk).length ∧ ∀ (i : Nat) (a : Bool) (ss : List S) (u : Value), (resT v n id rk)[i]? = some (a, ss) → vs[i]? = some u →
      (a = true → ∃ us : List Value, u = .agg us.toArray ∧ SRL ty g H w ss us) ∧ (a = false → SR ty g H w (ss.headD .undef) u)
  | [], [], us, n, id, _, _ => ⟨rfl, fun i a ss u h => by simp [resT] at h⟩
  | (a, l) :: rk, x :: vs, us, n, id, ⟨u1, u2, h1, h2, h3, h4, h5⟩, hs => by
    subst h1
    simp only [List.flatMap_cons, rkK_append, mkL_append, (rkK_len l id).2] at hs
    obtain ⟨hh1, hh2⟩ := hs.unappend (by rw [mkL_length, (rkK_len l id).1, h2])
    obtain ⟨q1, q2⟩ := resT_ok v h5 hh2
    refine ⟨by simp [resT, q1], fun i a' ss u hi hu => ?_⟩
    cases i with
    | zero =>
      simp only [resT, List.getElem?_cons_zero, Option.some.injEq, Prod.mk.injEq] at hi hu
      obtain ⟨rfl, rfl⟩ := hi
      subst hu
      refine ⟨fun ha => ⟨u1, h3 ha, hh1⟩, fun ha => ?_⟩
      have := h4 ha
      subst this
      exact hh1.head
    | succ i =>
      simp only [resT, List.getElem?_cons_succ] at hi hu
      exact q2 i a' ss u hi hu
  | [], _ :: _, _, _, _, h, _ => h.elim
  | _ :: _, [], _, _, _, h, _ => h.elim
theorem resC_ok {g : Gh} {H : List HS} (v : List DC) {rk : List (Bool × List RK)} {vs us : List Value} {id : Nat} (h : RVs rk vs us) (hs : SRL ty g H w (mkL v 0 (rkAll id rk)) us) : CR ty g H w (resC v id rk) (resVal vs) := by
  obtain ⟨q1, q2⟩ := resT_ok v h hs
  match rk, vs, h with
  | [(a, l)], [x], h =>
    obtain ⟨h3, h4⟩ := q2 0 a (mkL v 0 (rkK id l)) x rfl rfl
    simp only [resC, resVal]
    cases a with
    | true =>
      obtain ⟨us, k1, k2⟩ := h3 rfl
      exact ⟨us, k1, k2⟩
    | false => exact h4 rfl
  | [], vs, h =>
    have : vs = [] := by
      cases vs with
      | nil => rfl
      | cons _ _ => exact h.elim
    subst this
    exact ⟨[], rfl, q1, q2⟩
  | x :: y :: rk, vs, h =>
    match vs, q1 with
    | [], q1 => simp [resT] at q1
    | [_], q1 => simp [resT] at q1
    | v1 :: v2 :: vs, q1 => exact ⟨_, rfl, q1, q2⟩
  | [(a, l)], [], h => exact h.elim
  | [(a, l)], _ :: _ :: _, ⟨_, _, _, _, _, _, h⟩ => exact h.elim
theorem after_call {gB : Gh} {tm : List C} {HB : List HS} {a : Act} (h : Rel ty A gB ⟨tm, HB⟩ a w) {ids : List Nat} {Ac : An} (hbeg : Begun A gB HB w ids Ac) {kos : List KO} {rk : List (Bool × List RK)} {r : List DC} {vs us1 us2 : List Value} {gr : Gh} {H0r H1r : List HS} {w' : World}
    (hkl : kos.length = ids.length) (hkc : ∀ k ∈ kos.flatMap KO.kinds, ∃ t : CT, k = t.k1) (hrv : RVs rk vs us1) (hov : OV w' Ac.pb 0 kos us2) (hfl : FL ty Ac gr H0r H1r w' r 0 (rkAll 0 rk ++ kos.flatMap KO.kinds) (us1 ++ us2))
    (hap : Apart (vblk gr H0r) (rkAll 0 rk ++ kos.flatMap KO.kinds) (us1 ++ us2)) (hI : ∀ b, gB.I b → gr.I b) (hIr : ∀ b, gr.I b → b < w'.heap.size ∧ (gB.I b ∨ w.heap.size ≤ b ∨ Ac.Pm b)) (hpb : ∀ j, j < ids.length → ¬ gr.I (Ac.pb j))
    (hlive : ∀ j, j < ids.length → ∃ o, getH H1r j = .live o ∧ oblk gr j o (Ac.pb j)) (hkeep : Keep Ac w') (hnd : nodupB ids = true) (hus1 : us1.length = (rkAll 0 rk).length) {base : Nat} {H2 : List HS}
    (hput : putRows r 0 (rkAll base rk) (putVars r (cntL (rkAll base rk)) ids kos HB) = some H2) :
    ∃ g2, Rel ty A g2 ⟨tm, H2⟩ a w' ∧ (∀ b, gB.I b → g2.I b) ∧ CR ty g2 H2 w' (resC r base rk) (resVal vs) := by
  let ks := rkAll base rk
  have hfl' : FL ty Ac gr H0r H1r w' r 0 (ks ++ kos.flatMap KO.kinds) (us1 ++ us2) := FL_rk hfl
  have hap' : Apart (vblk gr H0r) (ks ++ kos.flatMap KO.kinds) (us1 ++ us2) := Apart_rk hap
  have hus1' : us1.length = ks.length := by rw [hus1]; simp only [ks, rkAll]; rw [(rkK_len _ _).1, (rkK_len _ _).1]
  obtain ⟨f1, f2⟩ := FL_split hfl' hus1'
  rw [Nat.zero_add] at f2
  obtain ⟨n1, n2, n3⟩ := putRows_get r hput
  let g2 : Gh := { I := gr.I, blk := gB.blk, val := fun id => if (ks.flatMap K1.ids).contains id = true then valAt id ks us1 else gB.val id, dom := fun id => if (ks.flatMap K1.ids).contains id = true then srcDom gr H0r (valAt id ks us1) else gB.dom id }
  have hmem : ∀ id, (ks.flatMap K1.ids).contains id = true ↔ id ∈ ks.flatMap K1.ids := fun id => by simp
  have hvlt : ∀ id ∈ ids, id < HB.length := fun id hid => by
    obtain ⟨t, cs, hc⟩ := hbeg.var id hid
    exact getH_lt_live hc
  have hkk : ∀ k ∈ ks, (∃ t : CT, k = t.k1) ∨ ∃ e id, k = .own e id := fun k hk => rkK_kind hk
  have hkr : ks.map K1.data = ks := map_data_rk hkk
  have hrow : ∀ id ∈ ks.flatMap K1.ids, ∃ (e : Nat) (l : List (List DC)) (i : Nat), getH H2 id = .live (mkRow e l) ∧ Loose ty Ac gr (g2.dom id) H1r w' e l (g2.val id) ∧ ks[i]? = some (.own e id) ∧ us1[i]? = some (g2.val id) := by
    intro id hid
    rcases ownAt_ok id f1 with ⟨z1, z2⟩ | ⟨e, l, i, z1, z2, z3, z4⟩
    · exfalso
      obtain ⟨k, hk, hkid⟩ := List.mem_flatMap.1 hid
      cases k with
      | own e i =>
        simp only [K1.ids, List.mem_singleton] at hkid
        subst hkid
        obtain ⟨j, hj⟩ := List.getElem?_of_mem hk
        exact z2 j e hj
      | _ => simp [K1.ids] at hkid
    · have hv : g2.val id = valAt id ks us1 := by simp only [g2]; rw [if_pos ((hmem id).2 hid)]
      have hd : g2.dom id = srcDom gr H0r (valAt id ks us1) := by simp only [g2]; rw [if_pos ((hmem id).2 hid)]
      exact ⟨e, l, i, (n2 id hid).2.trans z1, by rw [hv, hd]; exact z2, z3, by rw [hv]; exact z4⟩
  have hnew : ∀ id ∈ ks.flatMap K1.ids, id ∉ ids ∧ getH HB id = .free := by
    intro id hid
    have hf := (n2 id hid).1
    have hno : id ∉ ids := by
      intro hin
      have key : ∀ {ids : List Nat} {kos : List KO} {n : Nat} {H : List HS}, kos.length = ids.length → (∀ k ∈ kos, ∃ t l, k = KO.var t l) → (∀ i ∈ ids, i < H.length) → id ∈ ids → getH (putVars r n ids kos H) id ≠ .free := by
        intro ids
        induction ids with
        | nil => intro kos n H _ _ _ h; simp at h
        | cons i ids ih =>
          intro kos n H hl hk hlt hin
          cases kos with
          | nil => simp at hl
          | cons k kos =>
            obtain ⟨t, l, rfl⟩ := hk k (by simp)
            rw [putVars]
            by_cases hids : id ∈ ids
            · exact ih (by simpa using hl) (fun k hk' => hk k (by simp [hk'])) (fun i hi => by simp only [setH, List.length_set]; exact hlt i (by simp [hi])) hids
            · rcases List.mem_cons.1 hin with rfl | h'
              · rw [putVars_other r hids, getH_set_same _ (hlt id (by simp))]
                simp
              · exact absurd h' hids
      refine key hkl (fun k hk => ?_) hvlt hin hf
      obtain ⟨j, hj⟩ := List.getElem?_of_mem hk
      cases k with
      | var t l => exact ⟨t, l, rfl⟩
      | u =>
        exfalso
        have : ∀ {kos : List KO} {us : List Value} {j0 : Nat}, OV w' Ac.pb j0 kos us → KO.u ∉ kos := by
          intro kos
          induction kos with
          | nil => intro us j0 _ h; simp at h
          | cons k kos ih =>
            intro us j0 h hm
            cases k with
            | u => exact h.elim
            | var t l =>
              obtain ⟨u1, u2, _, _, _, _, h5⟩ := h
              rcases List.mem_cons.1 hm with hm | hm
              · simp at hm
              · exact ih h5 hm
        exact this hov hk
    rw [putVars_other r hno] at hf
    exact ⟨hno, hf⟩
  have hval : ∀ id, id ∉ ks.flatMap K1.ids → g2.val id = gB.val id := by
    intro id hid
    simp only [g2]
    rw [if_neg (by rw [hmem]; exact hid)]
  have hdom : ∀ id, id ∉ ks.flatMap K1.ids → g2.dom id = gB.dom id := by
    intro id hid
    simp only [g2]
    rw [if_neg (by rw [hmem]; exact hid)]
  have hvb : ∀ id ∈ ks.flatMap K1.ids, ∀ e b, kblk (g2.dom id) (g2.val id) e b → vblk gr H0r (g2.val id) e b := by
    intro id hid e b hb
    have hv : g2.val id = valAt id ks us1 := by simp only [g2]; rw [if_pos ((hmem id).2 hid)]
    have hd : g2.dom id = srcDom gr H0r (valAt id ks us1) := by simp only [g2]; rw [if_pos ((hmem id).2 hid)]
    unfold vblk
    rw [hd, ← hv] at hb
    exact hb
  have hown2 : ∀ (i e id : Nat) (u : Value), ks[i]? = some (.own e id) → us1[i]? = some u → nf H2 id ∧ g2.val id = u := by
    intro i e id u h1 h2
    have hin := mem_ids h1
    obtain ⟨e', l, i', z1, _, z3, z4⟩ := hrow id hin
    refine ⟨nf_live z1, ?_⟩
    simp only [g2]
    rw [if_pos ((hmem id).2 hin)]
    exact valAt_nodup n1 h1 h2
  have hs1 : SRL ty g2 H2 w' (mkL r 0 ks) us1 := FL_srl2 (g := gr) (g' := g2) (fun _ h => h) (by rw [hkr]; exact f1) hown2
    (fun i m off u h1 h2 => by
      rcases hkk _ (List.mem_of_getElem? h1) with ⟨t, ht⟩ | ⟨e, id, ht⟩
      · exact absurd ht.symm ((CT.k1_plain t).1 m off)
      · simp at ht)
    (fun i f caps u h1 h2 => by
      rcases hkk _ (List.mem_of_getElem? h1) with ⟨t, ht⟩ | ⟨e, id, ht⟩
      · exact absurd ht.symm ((CT.k1_plain t).2.1 f caps)
      · simp at ht)
  have hs2 : SRL ty g2 H2 w' (mkL r (cntL ks) (kos.flatMap KO.kinds)) us2 := FL_srl2 (g := gr) (g' := g2) (fun _ h => h) (by rw [map_data_ct hkc]; exact f2)
    (fun i e id u h1 h2 => by
      obtain ⟨t, ht⟩ := hkc _ (List.mem_of_getElem? h1)
      cases t <;> simp [CT.k1] at ht)
    (fun i m off u h1 h2 => by
      obtain ⟨t, ht⟩ := hkc _ (List.mem_of_getElem? h1)
      exact absurd ht.symm ((CT.k1_plain t).1 m off))
    (fun i f caps u h1 h2 => by
      obtain ⟨t, ht⟩ := hkc _ (List.mem_of_getElem? h1)
      exact absurd ht.symm ((CT.k1_plain t).2.1 f caps))
  have hvars : ∀ id ∈ ids, ∃ (t : Nat) (cs : List S) (us' : List Value), getH H2 id = .live (.var t cs) ∧ w'.heap[gB.blk id]? = some (.cells us'.toArray t (0, 0)) ∧ SRL ty g2 H2 w' cs us' ∧ ∀ u ∈ us', u.oneCell' = true := by
    intro id hid
    obtain ⟨t, cs, us', z1, z2⟩ := putVars_get r (w := w') (g := g2) (H' := H2) Ac.pb gB.blk hnd hov hs2 (fun j i hj => by rw [Nat.zero_add]; exact hbeg.pb j i hj) hkl hvlt id hid
    refine ⟨t, cs, us', ?_, z2⟩
    rw [n3 id (fun hin => (hnew id hin).1 hid)]
    exact z1
  have hcase : ∀ id, (id ∈ ks.flatMap K1.ids) ∨ (id ∈ ids ∧ id ∉ ks.flatMap K1.ids) ∨ (id ∉ ids ∧ id ∉ ks.flatMap K1.ids ∧ getH H2 id = getH HB id) := by
    intro id
    by_cases h1 : id ∈ ks.flatMap K1.ids
    · exact .inl h1
    · by_cases h2 : id ∈ ids
      · exact .inr (.inl ⟨h2, h1⟩)
      · refine .inr (.inr ⟨h2, h1, ?_⟩)
        rw [n3 id h1, putVars_other r h2]
  have hw0 := hbeg.w0
  have hblock : ∀ b, b < w.heap.size → ¬ Ac.Pv b → ¬ Ac.Pm b → w'.heap[b]? = w.heap[b]? := fun b h1 h2 h3 => by
    have := hkeep.block b (by rw [hw0]; exact h1) h2 h3
    rwa [hw0] at this
  have hvarI : ∀ id ∈ ids, ¬ gB.I (gB.blk id) := fun id hid hI => by
    obtain ⟨t, cs, hc⟩ := hbeg.var id hid
    exact oblk_notI h hc rfl hI
  have hPvI : ∀ b, gB.I b → ¬ Ac.Pv b := fun b hb hp => by
    obtain ⟨id, hid, rfl⟩ := hbeg.Pv b hp
    exact hvarI id hid hb
  have hsize : w.heap.size ≤ w'.heap.size := by have := hkeep.size; rwa [hw0] at this
  have hch : Ch gB g2 HB H2 w w' := by
    refine ⟨hI, fun b hb => hblock b (h.lt b hb) (hPvI b hb) (fun hp => (hbeg.Pm b hp).2.1 hb), fun id hn => ?_, fun id hn hr => ?_, fun id hn hr => ?_⟩
    · rcases hcase id with h1 | ⟨h1, _⟩ | ⟨_, _, h3⟩
      · exact absurd hn (not_nf_free (hnew id h1).2)
      · obtain ⟨t, cs, us', z1, _⟩ := hvars id h1
        exact nf_live z1
      · simpa [nf, h3] using hn
    · rcases hcase id with h1 | ⟨h1, h2⟩ | ⟨_, h2, h3⟩
      · exact absurd hn (not_nf_free (hnew id h1).2)
      · obtain ⟨t, cs, us', z1, _⟩ := hvars id h1
        obtain ⟨e, l, hr⟩ := hr
        rw [z1] at hr
        simp at hr
      · exact ⟨by simpa [isRow, h3] using hr, hval id h2⟩
    · rcases hcase id with h1 | ⟨h1, h2⟩ | ⟨_, h2, h3⟩
      · exact absurd hn (not_nf_free (hnew id h1).2)
      · exact ⟨hbeg.var id h1, rfl⟩
      · exact ⟨by simpa [isVar, h3] using hr, rfl⟩
  have hobj : ∀ id o, getH H2 id = .live o → (∃ (e : Nat) (l : List (List DC)) (i : Nat), o = mkRow e l ∧ Loose ty Ac gr (g2.dom id) H1r w' e l (g2.val id) ∧ ks[i]? = some (.own e id) ∧ us1[i]? = some (g2.val id)) ∨
      (∃ (t : Nat) (cs : List S) (us' : List Value), o = .var t cs ∧ id ∈ ids ∧ w'.heap[gB.blk id]? = some (.cells us'.toArray t (0, 0)) ∧ SRL ty g2 H2 w' cs us' ∧ ∀ u ∈ us', u.oneCell' = true) ∨ (id ∉ ids ∧ id ∉ ks.flatMap K1.ids ∧ getH HB id = .live o) := by
    intro id o ho
    rcases hcase id with h1 | ⟨h1, h2⟩ | ⟨h1, h2, h3⟩
    · obtain ⟨e, l, i, z1, z2, z3, z4⟩ := hrow id h1
      rw [z1] at ho
      simp only [HS.live.injEq] at ho
      exact .inl ⟨e, l, i, ho.symm, z2, z3, z4⟩
    · obtain ⟨t, cs, us', z1, z2, z3, z4⟩ := hvars id h1
      rw [z1] at ho
      simp only [HS.live.injEq] at ho
      exact .inr (.inl ⟨t, cs, us', ho.symm, h1, z2, z3, z4⟩)
    · exact .inr (.inr ⟨h1, h2, h3 ▸ ho⟩)
  have hpbid : ∀ id ∈ ids, ∃ j, j < ids.length ∧ Ac.pb j = gB.blk id := by
    intro id hid
    obtain ⟨j, hj⟩ := List.getElem?_of_mem hid
    have hlt : j < ids.length := by
      rcases Nat.lt_or_ge j ids.length with h' | h'
      · exact h'
      · simp [List.getElem?_eq_none h'] at hj
    exact ⟨j, hlt, hbeg.pb j id hj⟩
  have hvarr : ∀ id ∈ ids, ¬ gr.I (gB.blk id) := by
    intro id hid
    obtain ⟨j, h1, h2⟩ := hpbid id hid
    rw [← h2]
    exact hpb j h1
  have hold : ∀ id o b, id ∉ ids → getH HB id = .live o → oblk gB id o b → b < w.heap.size ∧ ¬ Ac.Pv b ∧ ¬ Ac.Pm b ∧ ¬ gr.I b := by
    intro id o b hid ho hb
    have hlt := h.oblk_lt ho hb
    have hPm : ¬ Ac.Pm b := fun hp => (hbeg.Pm b hp).2.2.2 id o ho hb
    refine ⟨hlt, fun hp => ?_, hPm, fun hIb => ?_⟩
    · obtain ⟨i, hi, rfl⟩ := hbeg.Pv b hp
      obtain ⟨t, cs, hc⟩ := hbeg.var i hi
      exact h.sep id i o _ _ (fun e => hid (e ▸ hi)) ho hc hb rfl
    · rcases (hIr b hIb).2 with h1 | h1 | h1
      · exact oblk_notI h ho hb h1
      · omega
      · exact hPm h1
  have hlo : ∀ e l id, Loose ty Ac gr (g2.dom id) H1r w' e l (g2.val id) → ∀ b, kblk (g2.dom id) (g2.val id) e b → ¬ gr.I b ∧ (w.heap.size ≤ b ∨ Ac.Pm b) ∧ ∀ i ∈ ids, gB.blk i ≠ b := by
    intro e l id hl b hb
    obtain ⟨q1, q2, q3⟩ := hl.own b hb
    rw [hw0] at q2
    refine ⟨q1, q2, fun i hi hib => ?_⟩
    obtain ⟨j, j1, j2⟩ := hpbid i hi
    obtain ⟨o, ho, hob⟩ := hlive j j1
    exact q3 j o ho (by rw [← hib, ← j2]; exact hob)
  have hblk2 : ∀ id o, id ∉ ks.flatMap K1.ids → oblk g2 id o = oblk gB id o := by
    intro id o hid
    cases o with
    | var t cs => rfl
    | row e l => funext b; exact rblk_eq (hval id hid) (hdom id hid) b
    | fz e l => rfl
    | pt e l => funext b; simp only [oblk, hdom id hid]
    | hl e l ix => funext b; exact rblk_eq (hval id hid) (hdom id hid) b
  refine ⟨g2, h.ch hch (fun id o ho => ?_) (fun i j o p b hij hi hj hb hb' => ?_) (fun b hb => (hIr b hb).1) (fun b hb => ?_) (fun id o b ho hb => ?_) (fun j hj hv => ?_) ?_, hI, resC_ok r hrv hs1⟩
  · rcases hobj id o ho with ⟨e, l, i, rfl, z1, z2, z3⟩ | ⟨t, cs, us', rfl, z0, z1, z2, z3⟩ | ⟨z1, z2, z3⟩
    · exact RowAt.or z1.row fun b hb => (z1.own b hb).1
    · exact ⟨us', z1, z2, hvarr id z0, z3⟩
    · refine OR.mono hch (hval id z2) rfl (hdom id z2) (fun b hb => ?_) (h.ob id o z3)
      obtain ⟨q1, q2, q3, q4⟩ := hold id o b z1 z3 hb
      exact ⟨hblock b q1 q2 q3, q4⟩
  · rcases hobj i o hi with ⟨e, l, n, rfl, z1, z2, z3⟩ | ⟨t, cs, us', rfl, z0, z1, z2, z3⟩ | ⟨z1, z2, z3⟩
    · have hb := oblk_mk.1 hb
      have hx := hlo e l i z1 b hb
      rcases hobj j p hj with ⟨e', l', n', rfl, y1, y2, y3⟩ | ⟨t', cs', us', rfl, y0, y1, y2, y3⟩ | ⟨y1, y2, y3⟩
      · have kl : ∀ {n : Nat} {e id : Nat}, ks[n]? = some (.own e id) → (ks ++ kos.flatMap KO.kinds)[n]? = some (.own e id) := fun {n e id} hk => by
          have : n < ks.length := by
            rcases Nat.lt_or_ge n ks.length with h' | h'
            · exact h'
            · simp [List.getElem?_eq_none h'] at hk
          rw [List.getElem?_append_left this]
          exact hk
        have ul : ∀ {n : Nat} {u : Value}, us1[n]? = some u → (us1 ++ us2)[n]? = some u := fun {n u} hk => by
          have : n < us1.length := by
            rcases Nat.lt_or_ge n us1.length with h' | h'
            · exact h'
            · simp [List.getElem?_eq_none h'] at hk
          rw [List.getElem?_append_left this]
          exact hk
        rcases Nat.lt_trichotomy n n' with hlt | rfl | hlt
        · exact apart_ne hap' (kl z2) (ul z3) (kl y2) (ul y3) hlt b (hvb i (mem_ids z2) _ b hb) (hvb j (mem_ids y2) _ b (oblk_mk.1 hb'))
        · rw [z2] at y2
          simp only [Option.some.injEq, K1.own.injEq] at y2
          exact hij y2.2
        · exact apart_ne hap' (kl y2) (ul y3) (kl z2) (ul z3) hlt b (hvb j (mem_ids y2) _ b (oblk_mk.1 hb')) (hvb i (mem_ids z2) _ b hb)
      · exact hx.2.2 j y0 hb'
      · rw [hblk2 j p y2] at hb'
        obtain ⟨q1, q2, q3, q4⟩ := hold j p b y1 y3 hb'
        rcases hx.2.1 with h1 | h1
        · omega
        · exact q3 h1
    · have hb : gB.blk i = b := hb
      obtain ⟨tx, cx, hx1⟩ := hbeg.var i z0
      rcases hobj j p hj with ⟨e', l', n', rfl, y1, y2, y3⟩ | ⟨t', cs', us', rfl, y0, y1, y2, y3⟩ | ⟨y1, y2, y3⟩
      · exact (hlo e' l' j y1 b (oblk_mk.1 hb')).2.2 i z0 hb
      · have hb' : gB.blk j = b := hb'
        obtain ⟨ty', cy, hy1⟩ := hbeg.var j y0
        exact h.sep i j _ _ b hij hx1 hy1 hb hb'
      · rw [hblk2 j p y2] at hb'
        exact h.sep i j _ _ b hij hx1 y3 hb hb'
    · rw [hblk2 i o z2] at hb
      rcases hobj j p hj with ⟨e', l', n', rfl, y1, y2, y3⟩ | ⟨t', cs', us', rfl, y0, y1, y2, y3⟩ | ⟨y1, y2, y3⟩
      · obtain ⟨q1, q2, q3, q4⟩ := hold i o b z1 z3 hb
        rcases (hlo e' l' j y1 b (oblk_mk.1 hb')).2.1 with h1 | h1
        · omega
        · exact q3 h1
      · have hb' : gB.blk j = b := hb'
        obtain ⟨ty', cy, hy1⟩ := hbeg.var j y0
        exact h.sep i j _ _ b hij z3 hy1 hb hb'
      · rw [hblk2 j p y2] at hb'
        exact h.sep i j _ _ b hij z3 y3 hb hb'
  · rcases (hIr b hb).2 with h1 | h1 | h1
    · exact h.inI b h1
    · exact .inr (.inl (Nat.le_trans h.keep.size h1))
    · rcases (hbeg.Pm b h1).2.2.1 with h2 | h2
      · exact .inr (.inl h2)
      · exact .inr (.inr h2)
  · rcases hobj id o ho with ⟨e, l, i, rfl, z1, z2, z3⟩ | ⟨t, cs, us', rfl, z0, z1, z2, z3⟩ | ⟨z1, z2, z3⟩
    · refine owOk_mk ?_
      rcases (hlo e l id z1 b (oblk_mk.1 hb)).2.1 with h1 | h1
      · exact .inl (Nat.le_trans h.keep.size h1)
      · exact (hbeg.Pm b h1).2.2.1
    · obtain ⟨tx, cx, hx1⟩ := hbeg.var id z0
      exact h.ow id (.var tx cx) b hx1 hb
    · rw [hblk2 id o z2] at hb
      exact h.ow id o b z3 hb
  · exact h.pb j hj (by
      obtain ⟨a1, a2⟩ := hch.var j (h.nfm j hj) hv
      exact a1)
  · refine h.keep.trans (by rw [hkeep.os, hw0]) (by rw [hkeep.tape, hw0]) (by rw [hkeep.output, hw0]) hsize fun b hb hp hm => hblock b (Nat.lt_of_lt_of_le hb h.keep.size) (fun hpv => ?_) (fun hpm => ?_)
    · obtain ⟨id, hid, rfl⟩ := hbeg.Pv b hpv
      obtain ⟨t, cs, hc⟩ := hbeg.var id hid
      rcases h.ow id _ _ hc rfl with h1 | h1
      · omega
      · exact hp h1
    · rcases (hbeg.Pm b hpm).2.2.1 with h1 | h1
      · omega
      · exact hm h1
end
section
variable {P : Program} {ty : Nat → Option TI} {A : An} {g : Gh} {tm : List C} {H : List HS} {a : Act} {w : World}
theorem SRL.at {g : Gh} {H : List HS} {w : World} : ∀ {ss : List S} {vs : List Value}, SRL ty g H w ss vs → ∀ (off : Nat), ss.getD off .undef ≠ .undef → ∃ v, vs[off]? = some v ∧ SR ty g H w (ss.getD off .undef) v
  | [], [], _, off, h => absurd (by simp) h
  | s :: ss, v :: vs, ⟨h1, h2⟩, 0, _ => ⟨v, rfl, h1⟩
  | s :: ss, v :: vs, ⟨h1, h2⟩, off + 1, h => by
    simp only [List.getD_cons_succ] at h ⊢
    exact SRL.at h2 off h
  | [], _ :: _, h, _, _ => h.elim
  | _ :: _, [], h, _, _ => h.elim
def tE (e : Nat) : Nat := match pq e with | true => e - 2000 | false => und e
def goodE (ty : Nat → Option TI) (e : Nat) : Prop := pq e = false → (dp e || flatE ty (und e)) = true
def domF (g : Gh) (id e : Nat) (F : List Nat) : Prop := (pq e = true → ∀ b, g.dom id b ↔ b ∈ F) ∧ (pq e = false → dp e = true → ∀ b, g.dom id b ↔ b ∈ F.tail)
theorem isRow_mk {H : List HS} {id e : Nat} {l : List (List DC)} (h : getH H id = .live (mkRow e l)) : isRow H id := by
  cases hp : pq e with
  | false => rw [mkRow_row hp] at h; exact ⟨_, _, .inl h⟩
  | true => rw [mkRow_part hp] at h; exact ⟨_, _, .inr (.inr (.inl h))⟩
theorem mark_rows (h : Rel ty A g ⟨tm, H⟩ a w) {ss : List S} {vs : List Value} (hs : SRL ty g H w ss vs) : ∀ {ps : List (Nat × Nat)} {rows : List (Option (Nat × Nat) × List (List DC))}, takeRows ty H ss ps = some rows → nodupB (idsOf (rows.map Prod.fst)) = true →
    ∃ Fs, Rds ty w vs ps (rows.map Prod.snd) Fs ∧ Own w Fs.flatten ∧ (∀ b ∈ Fs.flatten, ∃ id ∈ idsOf (rows.map Prod.fst), ∃ e l, getH H id = .live (mkRow e l) ∧ oblk g id (mkRow e l) b) ∧
      ∀ (w' : World) (ls' : List (List (List DC))), Rds ty w' vs ps ls' Fs → ∀ H0 : List HS, (∀ id ∈ idsOf (rows.map Prod.fst), id < H0.length) →
        (∀ id ∈ idsOf (rows.map Prod.fst), ∃ e l l' F, getH H id = .live (mkRow e l) ∧ goodE ty e ∧ RdC ty w (.sl (tE e)) (.sl l) (g.val id) F ∧ RdC ty w' (.sl (tE e)) (.sl l') (g.val id) F ∧ (∀ b ∈ F, b ∈ Fs.flatten) ∧
          domF g id e F ∧ Own w F ∧ (∀ b ∈ Fs.flatten, oblk g id (mkRow e l) b → b ∈ F) ∧ getH (backRows (rows.map Prod.fst) ls' H0) id = .live (mkRow e l')) ∧
        ∀ id, id ∉ idsOf (rows.map Prod.fst) → getH (backRows (rows.map Prod.fst) ls' H0) id = getH H0 id
  | [], rows, e, _ => by
    simp only [takeRows, Option.some.injEq] at e
    subst e
    refine ⟨[], .nil, ⟨List.nodup_nil, fun b hb => by simp at hb⟩, fun b hb => by simp at hb, fun w' ls' hr H0 _ => ⟨fun id hid => by simp [idsOf] at hid, fun id _ => ?_⟩⟩
    cases hr
    rfl
  | (off, e) :: ps, rows, e1, hn => by
    simp only [takeRows] at e1
    split at e1
    · rename_i id hid
      have fin : ∀ (e' : Nat) (l : List (List DC)) (F : List Nat), getH H id = .live (mkRow e' l) → tE e' = e → goodE ty e' → RdC ty w (.sl (tE e')) (.sl l) (g.val id) F → Own w F → (∀ b ∈ F, oblk g id (mkRow e' l) b) → domF g id e' F →
          (match takeRows ty H ss ps with | some r => some ((some (id, e'), l) :: r) | none => none) = some rows →
          ∃ Fs, Rds ty w vs ((off, e) :: ps) (rows.map Prod.snd) Fs ∧ Own w Fs.flatten ∧ (∀ b ∈ Fs.flatten, ∃ id ∈ idsOf (rows.map Prod.fst), ∃ e l, getH H id = .live (mkRow e l) ∧ oblk g id (mkRow e l) b) ∧
            ∀ (w' : World) (ls' : List (List (List DC))), Rds ty w' vs ((off, e) :: ps) ls' Fs → ∀ H0 : List HS, (∀ id ∈ idsOf (rows.map Prod.fst), id < H0.length) →
              (∀ id ∈ idsOf (rows.map Prod.fst), ∃ e l l' F, getH H id = .live (mkRow e l) ∧ goodE ty e ∧ RdC ty w (.sl (tE e)) (.sl l) (g.val id) F ∧ RdC ty w' (.sl (tE e)) (.sl l') (g.val id) F ∧ (∀ b ∈ F, b ∈ Fs.flatten) ∧
                domF g id e F ∧ Own w F ∧ (∀ b ∈ Fs.flatten, oblk g id (mkRow e l) b → b ∈ F) ∧ getH (backRows (rows.map Prod.fst) ls' H0) id = .live (mkRow e l')) ∧
              ∀ id, id ∉ idsOf (rows.map Prod.fst) → getH (backRows (rows.map Prod.fst) ls' H0) id = getH H0 id := by
        intro e' l F hl hu hd f1 f2 f3 f5 e1
        split at e1
        · rename_i r hr
          simp only [Option.some.injEq] at e1
          subst e1
          simp only [List.map_cons, idsOf] at hn ⊢
          obtain ⟨n1, n2⟩ := nodupB_cons hn
          obtain ⟨Fs, k1, k2, k3, k4⟩ := mark_rows h hs hr n2
          obtain ⟨v, hv, hsr⟩ := hs.at off (by rw [hid]; simp)
          rw [hid] at hsr
          have hval : v = g.val id := hsr.2.2 (isRow_mk hl)
          subst hval
          have hdisj : ∀ b ∈ F, b ∉ Fs.flatten := fun b hb hb' => by
            obtain ⟨id2, hid2, e2, l2, q1, q2⟩ := k3 b hb'
            have hne : id ≠ id2 := fun e => n1 (e ▸ hid2)
            exact h.sep id id2 _ _ b hne hl q1 (f3 b hb) q2
          refine ⟨F :: Fs, .cons off e _ l F _ _ _ hv (by rw [← hu]; exact f1) k1, ⟨?_, fun b hb => ?_⟩, fun b hb => ?_, fun w' ls' hR H0 hlt => ?_⟩
          · rw [List.flatten_cons]
            exact List.nodup_append.2 ⟨f2.nodup, k2.nodup, fun x hx y hy exy => hdisj x hx (exy ▸ hy)⟩
          · rw [List.flatten_cons] at hb
            rcases List.mem_append.1 hb with hb | hb
            · exact f2.open' b hb
            · exact k2.open' b hb
          · rw [List.flatten_cons] at hb
            rcases List.mem_append.1 hb with hb | hb
            · exact ⟨id, by simp, e', l, hl, f3 b hb⟩
            · obtain ⟨id2, hid2, r2⟩ := k3 b hb
              exact ⟨id2, by simp [hid2], r2⟩
          · cases hR with
            | cons _ _ v' l' F' _ ls2 Fs' z1 z2 z3 =>
              rw [hv] at z1
              obtain rfl := Option.some.inj z1
              simp only [backRows]
              have hltid : id < H0.length := hlt id (by simp)
              obtain ⟨y1, y2⟩ := k4 w' ls2 z3 (setH H0 id (.live (mkRow e' l'))) (fun i hi => by simp only [setH, List.length_set]; exact hlt i (by simp [hi]))
              refine ⟨fun i hi => ?_, fun i hi => ?_⟩
              · rcases List.mem_cons.1 hi with rfl | hi
                · refine ⟨e', l, l', F, hl, hd, f1, by rw [hu]; exact z2, fun b hb => by rw [List.flatten_cons]; exact List.mem_append.2 (.inl hb), f5, f2, fun b hb hr => ?_, ?_⟩
                  · rw [List.flatten_cons] at hb
                    rcases List.mem_append.1 hb with hb | hb
                    · exact hb
                    · obtain ⟨id2, hid2, e2, l2, q1, q2⟩ := k3 b hb
                      exact absurd q2 (h.sep i id2 _ _ b (fun e => n1 (e ▸ hid2)) hl q1 hr)
                  rw [y2 i n1, getH_set_same _ hltid]
                · obtain ⟨e2, l2, l2', F2, q1, q2, q3, q4, q5, q6, q7, q9, q8⟩ := y1 i hi
                  refine ⟨e2, l2, l2', F2, q1, q2, q3, q4, fun b hb => by rw [List.flatten_cons]; exact List.mem_append.2 (.inr (q5 b hb)), q6, q7, fun b hb hr => ?_, q8⟩
                  rw [List.flatten_cons] at hb
                  rcases List.mem_append.1 hb with hb | hb
                  · exact absurd hr (h.sep id i _ _ b (fun e => n1 (e ▸ hi)) hl q1 (f3 b hb))
                  · exact q9 b hb hr
              · simp only [List.mem_cons, not_or] at hi
                rw [y2 i hi.2, getH_set_ne _ fun k => hi.1 k.symm]
        · simp at e1
      split at e1
      · rename_i e' l hl
        split at e1
        · rename_i hc
          obtain ⟨hu, hpq, hh, hd⟩ := hc
          rw [← hu] at hd
          have hd' : dp e' = true ∨ flatE ty (und e') = true := by simpa using hd
          obtain ⟨F, f1, f2, f3, f4, f5⟩ := (h.ob id _ hl).whole2 hh hd'
          have htE : tE e' = und e' := by unfold tE; rw [hpq]
          have hmk : mkRow e' l = .row e' l := mkRow_row hpq
          exact fin e' l F (by rw [hmk]; exact hl) (by rw [htE]; exact hu) (fun _ => hd) (by rw [htE]; exact f1) f2 (fun b hb => by rw [hmk]; exact f3 b hb) ⟨(fun k => by rw [hpq] at k; cases k), fun _ => f5⟩ e1
        · simp at e1
      · rename_i e' l hl
        split at e1
        · rename_i hc
          obtain ⟨hc, hdk⟩ := hc
          have hpq : pq (e' + 2000) = true := pq_part hdk
          have hee : e' + 2000 - 2000 = e' := Nat.add_sub_cancel _ _
          have htE : tE (e' + 2000) = e' := by unfold tE; rw [hpq]; exact hee
          have hmk : mkRow (e' + 2000) l = .pt e' l := by rw [mkRow_part hpq, hee]
          obtain ⟨F, f1, f2, f3, f4⟩ := h.ob id _ hl
          exact fin (e' + 2000) l F (by rw [hmk]; exact hl) (by rw [htE]; exact hc) (fun k => by rw [hpq] at k; cases k) (by rw [htE]; exact f1) f2 (fun b hb => by rw [hmk]; exact (f3 b).2 hb) ⟨fun _ => f3, (fun k => by rw [hpq] at k; cases k)⟩ e1
        · simp at e1
      · simp at e1
    · rename_i hid
      split at e1
      · rename_i r hr
        simp only [Option.some.injEq] at e1
        subst e1
        simp only [List.map_cons, idsOf] at hn ⊢
        obtain ⟨Fs, k1, k2, k3, k4⟩ := mark_rows h hs hr hn
        obtain ⟨v, hv, hsr⟩ := hs.at off (by rw [hid]; simp)
        rw [hid] at hsr
        have hval : v = .slice none 0 0 := hsr
        subst hval
        refine ⟨[] :: Fs, .cons off e _ [] [] _ _ _ hv (.nil e none 0) k1, by simpa using k2, fun b hb => k3 b (by simpa using hb), fun w' ls' hR H0 hlt => ?_⟩
        cases hR with
        | cons _ _ v' l' F' _ ls2 Fs' z1 z2 z3 =>
          simp only [backRows]
          obtain ⟨y1, y2⟩ := k4 w' ls2 z3 H0 hlt
          refine ⟨fun i hi => ?_, y2⟩
          obtain ⟨e2, l2, l2', F2, q1, q2, q3, q4, q5, q6, q7, q9, q8⟩ := y1 i hi
          exact ⟨e2, l2, l2', F2, q1, q2, q3, q4, fun b hb => by simpa using q5 b hb, q6, q7, fun b hb hr => q9 b (by simpa using hb) hr, q8⟩
      · simp at e1
    · simp at e1
theorem OR.written {H' : List HS} {w' : World} {id e : Nat} {l l' : List (List DC)} {F Fa : List Nat} (h : OR ty g H w id (.row e l)) (hd : (dp e || flatE ty (und e)) = true) (hw : Wrote w w' Fa) (hlt : ∀ b, (g.val id).ownBlock = some b → b < w.heap.size)
    (hF : RdC ty w (.sl (und e)) (.sl l) (g.val id) F) (hF' : RdC ty w' (.sl (und e)) (.sl l') (g.val id) F) (hsub : ∀ b ∈ F, b ∈ Fa) (hown : ∀ b ∈ Fa, b ∈ F ∨ ¬ rblk g id e b) (hO : Own w F) (hdom : dp e = true → ∀ b, g.dom id b ↔ b ∈ F.tail) : OR ty g H' w' id (.row e l') := by
  obtain ⟨ti, vs, F0, h1, h0, h2, h3, h4, h5⟩ := h
  have hfl : dp e = false → ti.cts.all CT.flat = true := fun he => by
    rw [he, Bool.false_or] at hd
    unfold flatE at hd
    rw [h1] at hd
    exact hd
  have hO' : Own w' F := ⟨hO.nodup, fun b hb => by
    obtain ⟨cs, t, hc⟩ := hO.open' b hb
    obtain ⟨cs', hc', _⟩ := hw.shape b (hsub b hb) cs t hc
    exact ⟨cs', t, hc'⟩⟩
  generalize hv : g.val id = v at hF hF' h2 hlt
  cases hF' with
  | nil _ a c =>
    have hl : l = [] := by
      cases hF with
      | nil => rfl
    subst hl
    refine ⟨ti, [], [], h1, h0, ?_, .of (.nil _), ?_, h5⟩
    · rw [hv]
      have hvs : vs = [] := by have h3 := h3.h; cases h3; rfl
      subst hvs
      refine ⟨h2.1, ?_⟩
      rcases h2.2 with h2 | ⟨k, cap, cur, e1, e2, e3, e4⟩
      · exact .inl h2
      · refine .inr ⟨k, cap, cur, e1, e2, ?_, e4⟩
        have hk : k < w.heap.size := hlt k (by rw [e1]; rfl)
        rw [hw.block k hk fun hb => ?_]
        · exact e3
        · rcases hown k hb with hb | hb
          · cases hb
          · exact hb (.inl (by rw [hv, e1]; rfl))
    · cases he : dp e with
      | false => exact (Leads.shallow he).2 fun b hb => by cases hb
      | true => exact (Leads.deep he).2 ⟨⟨List.nodup_nil, fun b hb => by cases hb⟩, hdom he, fun b hb => by cases hb⟩
  | sl _ ti' b off n cap _ vs' F1 k1 k0 k2 k3 k4 k5 k6 =>
    obtain rfl : ti = ti' := by rw [h1] at k1; exact Option.some.inj k1
    rcases h2.2 with ⟨hn, _⟩ | ⟨k, cap', cur, e1, e2, e3, e4, e5, e6, e7⟩
    · simp at hn
    · simp only [Value.slice.injEq, Option.some.injEq, Addr.mk.injEq, and_true] at e1
      obtain ⟨⟨rfl, rfl⟩, hll, rfl⟩ := e1
      obtain ⟨cur', c1, c2⟩ := hw.shape b (hsub b (by simp)) cur _ e3
      have hvl := k6.length
      have hsz : vs'.length = n * ti.cts.length := by rw [hvl, k2]
      have hcap : n * ti.cts.length ≤ cap * ti.cts.length := Nat.mul_le_mul_right _ k4
      have hcell : ∀ (j : Nat) (u : Value), vs'[j]? = some u → cur'[j]? = some u := fun j u hu => by
        have := k5 j u hu
        rw [Nat.zero_add] at this
        simpa [World.cell?, c1] using this
      refine ⟨ti, vs', F1, h1, h0, ?_, .of k6, ?_, h5⟩
      · rw [hv]
        refine ⟨hvl, .inr ⟨b, cap, cur', ?_, Nat.zero_le _, c1, by rw [← k2]; exact k4, e5, by rw [c2]; exact e6, ?_⟩⟩
        · rw [k2]
        · rw [← k2]
          apply List.ext_getElem?
          intro j
          rw [List.getElem?_take]
          by_cases hj : j < n * ti.cts.length
          · rw [if_pos hj]
            have hjl : j < vs'.length := by omega
            have := hcell j _ (List.getElem?_eq_getElem hjl)
            rw [Array.getElem?_toList, this, List.getElem?_eq_getElem hjl]
          · rw [if_neg hj, List.getElem?_eq_none (by omega)]
      · have hnd := List.nodup_cons.1 hO'.nodup
        cases he : dp e with
        | false => exact (Leads.shallow he).2 fun c hc => by rw [k6.flat (hfl he)] at hc; cases hc
        | true => exact (Leads.deep he).2 ⟨⟨hnd.2, fun c hc => hO'.open' c (by simp [hc])⟩, hdom he, fun c hc hc' => by
            rw [hv] at hc'
            simp only [Value.ownBlock, Option.some.injEq] at hc'
            subst hc'
            exact hnd.1 hc⟩
theorem OR.writtenP {H' : List HS} {w' : World} {id e : Nat} {l l' : List (List DC)} {F Fa : List Nat} (h : OR ty g H w id (.pt e l)) (hw : Wrote w w' Fa) (hF' : RdC ty w' (.sl e) (.sl l') (g.val id) F) (hsub : ∀ b ∈ F, b ∈ Fa) (hO : Own w F) (hdom : ∀ b, g.dom id b ↔ b ∈ F) : OR ty g H' w' id (.pt e l') := by
  obtain ⟨_, _, _, _, h5⟩ := h
  exact ⟨F, hF', ⟨hO.nodup, fun b hb => by
    obtain ⟨cs, t, hc⟩ := hO.open' b hb
    obtain ⟨cs', hc', _⟩ := hw.shape b (hsub b hb) cs t hc
    exact ⟨cs', t, hc'⟩⟩, hdom, h5⟩
theorem Rel.marked (h : Rel ty A g ⟨tm, H⟩ a w) {ids : List Nat} {H2 : List HS} {w' : World} {Fa : List Nat} (hw : Wrote w w' Fa)
    (hF : ∀ b ∈ Fa, ∃ id ∈ ids, ∃ e l, getH H id = .live (mkRow e l) ∧ oblk g id (mkRow e l) b)
    (h1 : ∀ id ∈ ids, ∃ e l l' F, getH H id = .live (mkRow e l) ∧ goodE ty e ∧ RdC ty w (.sl (tE e)) (.sl l) (g.val id) F ∧ RdC ty w' (.sl (tE e)) (.sl l') (g.val id) F ∧ (∀ b ∈ F, b ∈ Fa) ∧
      domF g id e F ∧ Own w F ∧ (∀ b ∈ Fa, oblk g id (mkRow e l) b → b ∈ F) ∧ getH H2 id = .live (mkRow e l'))
    (h2 : ∀ id, id ∉ ids → getH H2 id = getH H id) : Rel ty A g ⟨tm, H2⟩ a w' := by
  have hFI : ∀ b ∈ Fa, ¬ g.I b := fun b hb => by
    obtain ⟨id, _, e, l, k1, k2⟩ := hF b hb
    exact oblk_notI h k1 k2
  have hback : ∀ i o, getH H2 i = .live o → ∃ p, getH H i = .live p ∧ oblk g i o = oblk g i p ∧ ((i ∉ ids ∧ o = p) ∨ i ∈ ids) ∧ ∀ b, owOk A b o = owOk A b p := by
    intro i o hi
    by_cases hid : i ∈ ids
    · obtain ⟨e, l, l', F, q1, q2, q3, q4, q5, q6, q7, q9, q8⟩ := h1 i hid
      rw [q8] at hi
      simp only [HS.live.injEq] at hi
      subst hi
      refine ⟨_, q1, ?_, .inr hid, fun b => ?_⟩
      · funext b; exact propext (oblk_mk.trans oblk_mk.symm)
      · cases hp : pq e with
        | false => rw [mkRow_row hp, mkRow_row hp]; rfl
        | true => rw [mkRow_part hp, mkRow_part hp]; rfl
    · rw [h2 i hid] at hi
      exact ⟨o, hi, rfl, .inl ⟨hid, rfl⟩, fun _ => rfl⟩
  have hch : Ch g g H H2 w w' := by
    refine ⟨fun _ h => h, fun b hb => hw.block b (h.lt b hb) fun k => hFI b k hb, fun i hi => ?_, fun i hi hr => ?_, fun i hi hr => ?_⟩
    · by_cases hid : i ∈ ids
      · obtain ⟨e, l, l', F, q1, q2, q3, q4, q5, q6, q7, q9, q8⟩ := h1 i hid
        exact nf_live q8
      · simpa [nf, h2 i hid] using hi
    · refine ⟨?_, rfl⟩
      by_cases hid : i ∈ ids
      · obtain ⟨e, l, l', F, q1, q2, q3, q4, q5, q6, q7, q9, q8⟩ := h1 i hid
        exact isRow_mk q1
      · simpa [isRow, h2 i hid] using hr
    · refine ⟨?_, rfl⟩
      by_cases hid : i ∈ ids
      · obtain ⟨e, l, l', F, q1, q2, q3, q4, q5, q6, q7, q9, q8⟩ := h1 i hid
        obtain ⟨t, cs, hr⟩ := hr
        rw [q8] at hr
        exact (mkRow_var (HS.live.inj hr)).elim
      · simpa [isVar, h2 i hid] using hr
  have hblk : ∀ i o b, i ∉ ids → getH H i = .live o → oblk g i o b → w'.heap[b]? = w.heap[b]? := fun i o b hid ho hb =>
    hw.block b (h.oblk_lt ho hb) fun k => by
      obtain ⟨id, hin, e, l, k1, k2⟩ := hF b k
      exact h.sep i id o _ b (fun x => hid (x ▸ hin)) ho k1 hb k2
  refine h.ch hch (fun id o ho => ?_) (fun i j o p b hij hi hj hb hb' => ?_) (fun b hb => Nat.lt_of_lt_of_le (h.lt b hb) hw.size) h.inI (fun id o b ho hb => ?_) (fun j hj hv => ?_) ?_
  · by_cases hid : id ∈ ids
    · obtain ⟨e, l, l', F, q1, q2, q3, q4, q5, q6, q7, q9, q8⟩ := h1 id hid
      rw [q8] at ho
      simp only [HS.live.injEq] at ho
      subst ho
      cases hp : pq e with
      | false =>
        have htE : tE e = und e := by unfold tE; rw [hp]
        rw [mkRow_row hp] at q1 q9 ⊢
        rw [htE] at q3 q4
        refine (h.ob id _ q1).written (q2 hp) hw (fun b hb => h.oblk_lt q1 (.inl hb)) q3 q4 q5 (fun b hb => ?_) q7 (q6.2 hp)
        by_cases hbF : b ∈ F
        · exact .inl hbF
        · exact .inr fun hr => hbF (q9 b hb hr)
      | true =>
        have htE : tE e = e - 2000 := by unfold tE; rw [hp]
        rw [mkRow_part hp] at q1 ⊢
        rw [htE] at q4
        exact (h.ob id _ q1).writtenP hw q4 q5 q7 (q6.1 hp)
    · rw [h2 id hid] at ho
      exact OR.mono hch rfl rfl rfl (fun b hb => ⟨hblk id o b hid ho hb, oblk_notI h ho hb⟩) (h.ob id o ho)
  · obtain ⟨p1, q1, e1, _, _⟩ := hback i o hi
    obtain ⟨p2, q2, e2, _, _⟩ := hback j p hj
    rw [e1] at hb
    rw [e2] at hb'
    exact h.sep i j _ _ b hij q1 q2 hb hb'
  · obtain ⟨p1, q1, e1, _, e3⟩ := hback id o ho
    rw [e1] at hb
    rw [e3]
    exact h.ow id p1 b q1 hb
  · exact h.pb j hj (hch.var j (h.nfm j hj) hv).1
  · refine h.keep.trans hw.os hw.tape hw.output hw.size fun b hb hp hm => hw.block b (Nat.lt_of_lt_of_le hb h.keep.size) fun k => ?_
    obtain ⟨id, hin, e, l, k1, k2⟩ := hF b k
    exact owOk_ne (h.ow id _ b k1 k2) hb hp hm rfl
end
section
variable {P : Program} {ty : Nat → Option TI} {fn : Nat → Option FI} {cl : Nat → Hint → List DC → Out} {A : An} {w : World}
theorem rdl_flat : ∀ {ts : List CT} {x : List DC} {v : List Value} {F : List Nat}, RdL ty w ts x v F → ts.all CT.flat = true → RdL ty w ts x v []
  | _, _, _, _, .nil, _ => .nil
  | _, _, _, _, .cons t ts x xs v vs F G h1 h2, hf => by
    simp only [List.all_cons, Bool.and_eq_true] at hf
    have h3 : RdC ty w t x v [] := by
      cases h1 with
      | b x => exact .b x
      | i k n => exact .i k n
      | s l => exact .s l
      | nil e a c => exact .nil e a c
      | sl => simp [CT.flat] at hf
    exact RdL.cons t ts x xs v vs [] [] h3 (rdl_flat h2 hf.2)
theorem rdv_flat : ∀ {ts : List CT} {l : List (List DC)} {v : List Value} {F : List Nat}, RdV ty w ts l v F → ts.all CT.flat = true → RdV ty w ts l v []
  | _, _, _, _, .nil ts, _ => .nil ts
  | _, _, _, _, .cons ts x l v vs F G h1 h2, hf => RdV.cons ts x l v vs [] [] (rdl_flat h1 hf) (rdv_flat h2 hf)
theorem FL_reI {g : Gh} {H0 H : List HS} {v : List DC} {I2 : Nat → Prop} (hn : ∀ b, (A.w0.heap.size ≤ b ∨ A.Pm b) → ¬ g.I b → ¬ I2 b) : ∀ {n : Nat} {ks : List K1} {us : List Value}, FL ty A g H0 H w v n ks us →
    (∀ e, K1.sl e ∈ ks → ∀ (l : List (List DC)) (v : Value) (F : List Nat), RdC ty w (.sl e) (.sl l) v F → (∀ b ∈ F, g.I b) → ∃ F', RdC ty w (.sl e) (.sl l) v F' ∧ ∀ b ∈ F', I2 b) →
    (∀ e id, K1.own e id ∈ ks → dp e = false → ∀ (ti : TI) (l : List (List DC)) (vs : List Value) (F : List Nat), ty e = some ti → RdV ty w ti.cts l vs F → (∀ b ∈ F, g.I b) → ∃ F', RdV ty w ti.cts l vs F' ∧ ∀ b ∈ F', I2 b) →
    FL ty A { g with I := I2 } H0 H w v n ks us
  | _, [], [], _, _, _ => trivial
  | n, k :: ks, u :: us, ⟨⟨dd, h1, h2, h3⟩, h4⟩, hs, ho => by
    refine ⟨⟨dd, h1, h2, ?_⟩, FL_reI hn h4 (fun e he => hs e (by simp [he])) (fun e id he => ho e id (by simp [he]))⟩
    cases k with
    | sl e =>
      obtain ⟨l, F, q1, q2, q3⟩ := h3
      obtain ⟨F', q4, q5⟩ := hs e (by simp) l u F q2 q3
      exact ⟨l, F', q1, q4, q5⟩
    | own e id =>
      obtain ⟨l, q1, q2⟩ := h3
      have hown : ∀ b, kblk (srcDom g H0 u) u e b → ¬ I2 b ∧ (A.w0.heap.size ≤ b ∨ A.Pm b) ∧ ∀ i p, getH H i = .live p → ¬ oblk { g with I := I2 } i p b := fun b hb => by
        obtain ⟨y1, y2, y3⟩ := q2.own b hb
        refine ⟨hn b y2 y1, y2, fun i p hi => ?_⟩
        have := y3 i p hi
        rwa [oblk_same rfl rfl rfl]
      cases hpq : pq e with
      | true => exact ⟨l, q1, ⟨.ofPart hpq (q2.row.part hpq), hown⟩⟩
      | false =>
      obtain ⟨ti, vs, F, z1, z2, z3, z4, z5⟩ := q2.row.row hpq
      have hrow : ∃ F', RdR ty w e ti.cts l vs F' ∧ LeadsV I2 (srcDom g H0 u) u w e F' := by
        cases he : dp e with
        | false =>
          unfold LeadsV at z5 ⊢
          rw [he] at z5 ⊢
          rw [und_shallow he] at z1
          obtain ⟨F', y1, y2⟩ := ho e id (by simp) he ti l vs F z1 (z4.v (hq_shallow he)) z5
          exact ⟨F', .of y1, y2⟩
        | true =>
          refine ⟨F, z4, ?_⟩
          unfold LeadsV at z5 ⊢
          rw [he] at z5 ⊢
          exact z5
      obtain ⟨F', z6, z7⟩ := hrow
      exact ⟨l, q1, ⟨.ofRow hpq ⟨ti, vs, F', z1, z2, z3, z6, z7⟩, hown⟩⟩
    | _ => exact h3
  | _, [], _ :: _, h, _, _ => h.elim
  | _, _ :: _, [], h, _, _ => h.elim
theorem RVs.length : ∀ {rk : List (Bool × List RK)} {vs us : List Value}, RVs rk vs us → us.length = (rk.flatMap Prod.snd).length
  | [], [], us, h => by rw [show us = [] from h]; rfl
  | (a, l) :: rk, v :: vs, us, ⟨u1, u2, h1, h2, h3, h4, h5⟩ => by
    subst h1
    simp [h2, RVs.length h5]
  | [], _ :: _, _, h => h.elim
  | _ :: _, [], _, h => h.elim
theorem run_callFunc {f : FuncId} {fd : Func} {vals : Array Value} (h1 : P.funcs[f]? = some fd) (h2 : (fd.name == "runtime.NumGoroutine") = false) (h3 : fd.body.isNone = false) (w : World) : (callFunc f vals).run P w = .ok (.enter f vals) w := by
  have h3' : fd.body ≠ none := by intro h; rw [h] at h3; simp at h3
  have h2' : fd.name ≠ "runtime.NumGoroutine" := by intro h; rw [h] at h2; simp at h2
  unfold callFunc
  simp [h1, h2', h3']
theorem run_enter {o : Oper} {c : Call} {fop : Operand} {a : Act} {f : FuncId} {xs : Array Value} {fd : Func} (ho : o.op = .call c) (hc : c.callee = .value fop) (hf : a.eval fop = .func (.func f) #[] xs) (h1 : P.funcs[f]? = some fd)
    (h2 : (fd.name == "runtime.NumGoroutine") = false) (h3 : fd.body.isNone = false) (w : World) : (execOp a.eval o).run P w = .ok (.enter f (c.args.map a.eval ++ xs)) w := by
  have := run_callFunc (P := P) (vals := c.args.map a.eval ++ xs) h1 h2 h3 w
  simp only [execOp, ho, resolve, hc, hf, Deferred.ofValue, Sem.run_bind, Sem.run_pure, Result.andThen_ok, invoke]
  rw [show (#[] ++ c.args.map a.eval : Array Value) = c.args.map a.eval by simp]
  exact this
theorem rkK_flat : ∀ {L : List RK} {i : Nat}, L.all (RK.flat ty) = true → (∀ e, K1.sl e ∉ rkK i L) ∧ ∀ e id, K1.own e id ∈ rkK i L → dp e = false → ∀ ti, ty e = some ti → ti.cts.all CT.flat = true
  | [], i, _ => ⟨fun e h => by simp [rkK] at h, fun e id h => by simp [rkK] at h⟩
  | r :: L, i, h => by
    simp only [List.all_cons, Bool.and_eq_true] at h
    obtain ⟨a, b⟩ := rkK_flat (i := r.nx i) h.2
    refine ⟨fun e he => ?_, fun e id he hde ti hti => ?_⟩
    · simp only [rkK, List.mem_cons] at he
      rcases he with he | he
      · cases r with
        | ct c =>
          cases c with
          | sl e' => simp [RK.flat] at h
          | _ => simp [RK.k1, CT.k1] at he
        | new e' => simp [RK.k1] at he
      · exact a e he
    · simp only [rkK, List.mem_cons] at he
      rcases he with he | he
      · cases r with
        | ct c => cases c <;> simp [RK.k1, CT.k1] at he
        | new e' =>
          simp only [RK.k1, K1.own.injEq] at he
          obtain ⟨rfl, _⟩ := he
          have h1 := h.1
          simp only [RK.flat, hde, Bool.false_or, flatE, hti] at h1
          exact h1
      · exact b e id he hde ti hti
theorem markSS_ok {g : Gh} {H : List HS} {agg : Bool} {n : Nat} {c : C} {ss : List S} {v : Value} (h : CR ty g H w c v) (e : markSS agg n c = some ss) :
    ∃ vs : List Value, (agg = true → v = .agg vs.toArray) ∧ (agg = false → vs = [v]) ∧ SRL ty g H w ss vs ∧ vs.length = n ∧ ∀ u ∈ vs, u.oneCell' = true := by
  unfold markSS at e
  split at e
  · split at e
    · rename_i s hc
      obtain ⟨rfl, rfl, hd⟩ := hc
      simp only [Option.some.injEq] at e
      subst e
      exact ⟨[v], fun h => (by cases h), fun _ => rfl, ⟨h, trivial⟩, rfl, fun u hu => by
        simp only [List.mem_singleton] at hu
        subst hu
        exact SR.one h hd⟩
    · simp at e
  · split at e
    · rename_i l hc
      obtain ⟨rfl, rfl, hd⟩ := hc
      simp only [Option.some.injEq] at e
      subst e
      obtain ⟨vs, h1, h2⟩ := h
      exact ⟨vs, fun _ => h1, fun h => (by cases h), h2, h2.length, SRL.one h2 hd⟩
    · simp at e
  · simp at e
theorem backK_eq (ls : List (List (List DC))) : ∀ (rs : List (Option (Nat × Nat))) (j : Nat) (H : List HS), ls.length = j + rs.length → backK ls j rs H = backRows rs (ls.drop j) H
  | [], j, H, h => by cases hl : ls.drop j <;> rfl
  | r :: rs, j, H, h => by
    have hj : j < ls.length := by rw [h]; simp
    rw [List.drop_eq_getElem_cons hj]
    have hg : ls.getD j [] = ls[j] := by rw [List.getD_eq_getElem?_getD, List.getElem?_eq_getElem hj]; rfl
    have ih := fun H => backK_eq ls rs (j + 1) H (by rw [h]; simp only [List.length_cons]; omega)
    cases r with
    | none => rw [backK, backRows, ih]
    | some p =>
      obtain ⟨id, e⟩ := p
      rw [backK, backRows, ih, hg]
theorem markK_eq {ty : Nat → Option TI} {H : List HS} {m : MK} {args : List C} : markK ty none H m args (fun H v => some (H, v)) = markR ty H m args := by
  unfold markK markM markR
  split
  · split
    · split
      · rename_i rows _
        cases hn : nodupB (idsOf (rows.map Prod.fst)) with
        | true =>
          dsimp only
          split
          · rename_i x y h1
            rw [h1]
            dsimp only
            split
            · rename_i hl
              rw [backK_eq _ _ 0 H (by rw [hl]; simp), List.drop_zero]
            · rfl
          · rename_i h1
            rw [h1]
        | false => rfl
      · rfl
    · rfl
  · rfl
theorem mark_step {G : Glob} (hfn : ∀ f fi, fn f = some fi → FnOk P G ty f fi) {f : Nat} {fi : FI} {m : MK} (hfi : fn f = some fi) (hm : fi.mark = some m) {o : Oper} {c : Call} {fop : Operand} {g : Gh} {tm : List C} {H H' : List HS} {v : C} {a : Act} {Q : Exit → Act → World → Prop}
    (ho : o.op = .call c) (hc : c.callee = .value fop) (hf : opd tm fop = .one (.fn f [])) (h : Rel ty A g ⟨tm, H⟩ a w) (e : markR ty H m (opds tm c.args.toList) = some (H', v)) :
    o.wp P a w (Post ty A g H w ⟨putC tm o.dst v, H'⟩) Q := by
  unfold markR at e
  split at e
  · rename_i x k hargs
    split at e
    · rename_i ss hss
      split at e
      · rename_i rows hrows
        split at e
        · rename_i ls' k' hn hrun
          split at e
          · rename_i hlen
            simp only [Option.some.injEq, Prod.mk.injEq] at e
            obtain ⟨rfl, rfl⟩ := e
            obtain ⟨⟨fd, d1, d2, d3, _⟩, _, d5, _⟩ := hfn f fi hfi
            have rf := h.opd fop
            rw [hf] at rf
            obtain ⟨xs, x1, x2, x3⟩ := rf
            have hx0 : xs = #[] := Array.eq_empty_of_size_eq_zero (by simpa using x2)
            subst hx0
            have hrun1 := run_enter (P := P) ho hc x1 d1 d2 d3 w
            obtain ⟨va, vk, hv, r1, r2⟩ := args_two h hargs
            have ek : vk = .int .i64 k := r2
            subst ek
            obtain ⟨vs, y1, y2, y3, y4, y5⟩ := markSS_ok r1 hss
            obtain ⟨Fs, z1, z2, z3, z4⟩ := mark_rows h y3 hrows hn
            have hcalls := d5 m hm w va vs k _ ls' k' Fs y1 y2 y4 y5 z1 z2 hrun
            unfold Oper.wp
            rw [hrun1]
            show Calls P f _ w _
            rw [hv]
            refine Calls.mono (by simpa using hcalls) fun en w' hen => ?_
            obtain ⟨rfl, hw, hR⟩ := hen
            have hidlt : ∀ id ∈ idsOf (rows.map Prod.fst), id < H.length := fun id hid => by
              have key : ∀ {ps : List (Nat × Nat)} {rows : List (Option (Nat × Nat) × List (List DC))}, takeRows ty H ss ps = some rows → ∀ id ∈ idsOf (rows.map Prod.fst), id < H.length := by
                intro ps
                induction ps with
                | nil =>
                  intro rows e id hid
                  simp only [takeRows, Option.some.injEq] at e
                  subst e
                  simp [idsOf] at hid
                | cons p ps ih =>
                  intro rows e id hid
                  obtain ⟨off, e0⟩ := p
                  simp only [takeRows] at e
                  split at e
                  · split at e
                    · rename_i hl
                      split at e
                      · split at e
                        · rename_i r hr
                          simp only [Option.some.injEq] at e
                          subst e
                          simp only [List.map_cons, idsOf, List.mem_cons] at hid
                          rcases hid with rfl | hid
                          · exact getH_lt_live hl
                          · exact ih hr id hid
                        · simp at e
                      · simp at e
                    · rename_i hl
                      split at e
                      · split at e
                        · rename_i r hr
                          simp only [Option.some.injEq] at e
                          subst e
                          simp only [List.map_cons, idsOf, List.mem_cons] at hid
                          rcases hid with rfl | hid
                          · exact getH_lt_live hl
                          · exact ih hr id hid
                        · simp at e
                      · simp at e
                    · simp at e
                  · split at e
                    · rename_i r hr
                      simp only [Option.some.injEq] at e
                      subst e
                      simp only [List.map_cons, idsOf] at hid
                      exact ih hr id hid
                    · simp at e
                  · simp at e
              exact key hrows id hid
            obtain ⟨q1, q2⟩ := z4 w' ls' hR H hidlt
            exact ⟨g, (h.marked hw z3 q1 q2).put o.dst (show CR ty g _ w' (.one (.int .i64 k')) (.int .i64 k') from rfl), fun _ h => h⟩
          · simp at e
        · simp at e
      · simp at e
    · simp at e
  · simp at e
theorem stf_step {G : Glob} (hfn : ∀ f fi, fn f = some fi → FnOk P G ty f fi) {A : An} (hA : AOk G A) {f : Nat} {fi : FI} {q : Nat → List HS → List C → Option (Nat × List HS × C)} (hfi : fn f = some fi) (hm : fi.stf = some q) {o : Oper} {c : Call} {fop : Operand} {g : Gh} {base n : Nat} {tm : List C} {H H' : List HS} {v : C} {a : Act} {w : World} {Q : Exit → Act → World → Prop}
    (ho : o.op = .call c) (hc : c.callee = .value fop) (hf : opd tm fop = .one (.fn f [])) (h : Rel ty A g ⟨tm, H⟩ a w) (e : q base H (opds tm c.args.toList) = some (n, H', v)) (hn : n < LIM) :
    o.wp P a w (Post ty A g H w ⟨putC tm o.dst v, H'⟩) Q := by
  obtain ⟨⟨fd, d1, d2, d3, _⟩, _, _, d5⟩ := hfn f fi hfi
  have rf := h.opd fop
  rw [hf] at rf
  obtain ⟨xs, x1, x2, x3⟩ := rf
  have hx0 : xs = #[] := Array.eq_empty_of_size_eq_zero (by simpa using x2)
  subst hx0
  have hrun1 := run_enter (P := P) ho hc x1 d1 d2 d3 w
  obtain ⟨vs, hv, hl, hcr⟩ := opds_map h c.args.toList _ rfl
  have hcalls := d5 q hm A g tm H H' a w base n _ vs v hA h hl hcr e hn
  unfold Oper.wp
  rw [hrun1]
  show Calls P f _ w _
  have hv' : c.args.map a.eval = vs.toArray := by apply Array.toList_inj.1; simpa using hv
  rw [hv']
  refine Calls.mono (by simpa only [List.append_nil, Array.append_empty] using hcalls) fun en w' hen => ?_
  obtain ⟨v', g', rfl, h1, h2, h3⟩ := hen
  exact ⟨g', h1.put o.dst h3, h2⟩
theorem call_step {G : Glob} (hfn : ∀ f fi, fn f = some fi → FnOk P G ty f fi) (hcl : CallOK P G ty fn cl) (A : An) (hA : AOk G A) : CallStep P ty fn cl A := by
  intro o c fop f caps base tm H H' v g a w Q ho hc hf h e
  unfold callR at e
  dsimp only at e
  split at e
  · simp at e
  · rename_i fi hfi
    split at e
    · rename_i q hq
      split at e
      · split at e
        · rename_i r hr
          split at e
          · rename_i hn
            simp only [Option.some.injEq] at e
            obtain ⟨n2, H2, v2⟩ := r
            simp only [Prod.mk.injEq] at e
            obtain ⟨rfl, rfl⟩ := e
            exact stf_step hfn hA hfi hq ho hc hf h hr hn
          · simp at e
        · simp at e
      · simp at e
    split at e
    · rename_i m hm
      split at e
      · rw [markK_eq] at e
        exact mark_step hfn hfi hm ho hc hf h e
      · simp at e
    split at e
    · rename_i kcs kos e1 e2
      split at e
      · rename_i p q e3 e4
        split at e
        · rename_i v0 H1 e5
          split at e
          · rename_i hchk
            split at e
            · rename_i r hr
              simp only [Bool.and_eq_true] at hchk
              obtain ⟨⟨hnd, hcapv⟩, hok⟩ := hchk
              obtain ⟨⟨fd, d1, d2, d3, _⟩, _, _⟩ := hfn f fi hfi
              have rf := h.opd fop
              rw [hf] at rf
              obtain ⟨xs, x1, x2, x3⟩ := rf
              have hrun := run_enter (P := P) ho hc x1 d1 d2 d3 w
              obtain ⟨vs0, y1, y2, y3⟩ := opds_map h c.args.toList _ rfl
              have hcc : ∀ (i : Nat) (s : C) (u : Value), (opds tm c.args.toList ++ caps.map fun id => C.one (.ptr id 0))[i]? = some s → (vs0 ++ xs.toList)[i]? = some u → CR ty g H w s u := by
                intro i s u hs hu
                rcases Nat.lt_or_ge i vs0.length with h' | h'
                · rw [List.getElem?_append_left (by omega)] at hs
                  rw [List.getElem?_append_left h'] at hu
                  exact y3 i s u hs hu
                · rw [List.getElem?_append_right (by omega), List.getElem?_map] at hs
                  rw [List.getElem?_append_right h', y2] at hu
                  cases hid : caps[i - (opds tm c.args.toList).length]? with
                  | none => rw [hid] at hs; simp at hs
                  | some id =>
                    rw [hid] at hs
                    simp only [Option.map_some, Option.some.injEq] at hs
                    subst hs
                    obtain ⟨z1, z2⟩ := x3 _ id hid
                    have hv : isVar H id := by
                      have := List.all_eq_true.1 hcapv id (List.mem_of_getElem? hid)
                      unfold isVarB at this
                      split at this
                      · rename_i hh; exact ⟨_, _, hh⟩
                      · simp at this
                    have := z2 hv
                    rw [Array.getElem?_toList, this] at hu
                    simp only [Option.some.injEq] at hu
                    subst hu
                    exact ⟨z1, rfl, fun _ => rfl⟩
              obtain ⟨g1, Ac, gc, r1, s1, hbeg, hI0, hplain, hrel, hlen⟩ := start_ok h (fi := fi) (vals := vs0 ++ xs.toList) (by simp [y2, x2]) hcc e1 e2 e3 e4 e5 hnd hok
              obtain ⟨k1, k2, k3, k4⟩ := objK_ok e2
              have hvars : KO.vars (kos ++ List.replicate (fi.pk.filter PK.isMv).length .u) = kos := vars_all _ k2
              have hvals : (vs0 ++ xs.toList).toArray = c.args.map a.eval ++ xs := by
                apply Array.toList_inj.1
                simp [← y1]
              have hAc : AOk G Ac := by
                refine ⟨?_, fun b hb => ?_⟩
                · rw [hbeg.w0]
                  refine G.dep A.w0 w (fun b hb => ?_) hA.1
                  obtain ⟨z1, z2, z3⟩ := hA.2 b hb
                  exact h.keep.block b z1 z2 z3
                · obtain ⟨z1, z2, z3⟩ := hA.2 b hb
                  refine ⟨by rw [hbeg.w0]; exact Nat.lt_of_lt_of_le z1 h.keep.size, fun hp => ?_, fun hp => ?_⟩
                  · obtain ⟨id, hid, rfl⟩ := hbeg.Pv b hp
                    obtain ⟨t, cs, hv⟩ := hbeg.var id hid
                    rcases r1.ow id _ _ hv rfl with h' | h'
                    · omega
                    · exact z2 h'
                  · obtain ⟨_, _, h', _⟩ := hbeg.Pm b hp
                    rcases h' with h' | h'
                    · omega
                    · exact z3 h'
              have hcalls := hcl f fi _ v0 r hfi hr Ac gc (c.args.map a.eval ++ xs) w hAc (by rw [← hvals]; exact hrel) (by rw [← hvals]; simpa using hlen) hbeg.w0 (by dsimp only; rw [hvars, hbeg.m]; exact k1.symm)
              unfold Oper.wp
              rw [hrun]
              show Calls P f _ w _
              refine Calls.mono hcalls fun en w' hen => ?_
              cases en with
              | returned rv =>
                obtain ⟨vs, rfl, hres⟩ := hen
                obtain ⟨⟨gr, H0r, H1r, us1, us2, q1, q2, q3, q4, q5, q6, q7⟩, hkeep⟩ := hres
                dsimp only at q2 q3 q4
                rw [hvars] at q2 q3 q4
                have hus1 : us1.length = (rkAll 0 fi.rk).length := by rw [q1.length]; simp only [rkAll]; rw [(rkK_len _ _).1]
                show Post ty A g H w _ _ w'
                have fin : ∀ (gB : Gh) (H2 : List HS), (∃ g2, Rel ty A g2 ⟨tm, H2⟩ a w' ∧ (∀ b, gB.I b → g2.I b) ∧ CR ty g2 H2 w' (resC r base fi.rk) (resVal vs)) → (∀ b, g.I b → gB.I b) → some (H2, resC r base fi.rk) = some (H', v) →
                    Post ty A g H w ⟨putC tm o.dst v, H'⟩ (a.put o.dst (resVal vs)) w' := by
                  intro gB H2 hx hgI he
                  simp only [Option.some.injEq, Prod.mk.injEq] at he
                  obtain ⟨rfl, rfl⟩ := he
                  obtain ⟨g2, z1, z2, z3⟩ := hx
                  exact ⟨g2, z1.put o.dst z3, fun b hb => z2 b (hgI b hb)⟩
                split at e
                · rename_i hflat
                  simp only [Bool.and_eq_true] at hflat
                  obtain ⟨hfl, hpl⟩ := hflat
                  obtain ⟨hidn, _⟩ := argK_plain hpl e1
                  rw [hidn] at k1 hbeg
                  have hk0 : kos = [] := List.eq_nil_of_length_eq_zero k1
                  subst hk0
                  have hPm := hplain hpl
                  split at e
                  · rename_i H2 hput
                    refine fin g H2 ?_ (fun _ h => h) e
                    have hflatL : (fi.rk.flatMap Prod.snd).all (RK.flat ty) = true := by
                      rw [List.all_flatMap]
                      exact hfl
                    have hkf := rkK_flat (ty := ty) (i := 0) hflatL
                    have hm0 : Ac.m = 0 := hbeg.m
                    have hf2 : FL ty Ac { gr with I := g.I } H0r H1r w' r 0 (rkAll 0 fi.rk ++ ([] : List KO).flatMap KO.kinds) (us1 ++ us2) := by
                      refine FL_reI (fun b hb _ => ?_) q3 (fun e he => ?_) (fun e id he hde ti l vs F hti hrd _ => ?_)
                      · rcases hb with hb | hb
                        · rw [hbeg.w0] at hb
                          exact fun hI => absurd (h.lt b hI) (by omega)
                        · exact absurd hb (hPm b)
                      · simp only [List.flatMap_nil, List.append_nil] at he
                        exact absurd he (hkf.1 e)
                      · simp only [List.flatMap_nil, List.append_nil] at he
                        exact ⟨[], rdv_flat hrd (hkf.2 e id he hde ti hti), fun _ h => by cases h⟩
                    exact after_call h (ids := []) (Ac := Ac) (kos := []) (gr := { gr with I := g.I }) ⟨hbeg.w0, hbeg.m, fun j id hj => by simp at hj, fun b hb => by
                        obtain ⟨id, hid, _⟩ := hbeg.Pv b hb
                        simp at hid, fun b hb => absurd hb (hPm b), fun id hid => by simp at hid⟩ rfl (fun k hk => by simp at hk) q1 q2 hf2 q4 (fun _ h => h)
                      (fun b hb => ⟨Nat.lt_of_lt_of_le (h.lt b hb) (by have := hkeep.size; rwa [hbeg.w0] at this), .inl hb⟩) (fun j hj => by simp at hj) (fun j hj => by simp at hj) hkeep rfl hus1 hput
                  · simp at e
                · rename_i hflat
                  split at e
                  · rename_i H2 hput
                    refine fin g1 H2 ?_ s1.I e
                    have hf2 : FL ty Ac { gr with I := fun b => g1.I b ∨ gr.I b } H0r H1r w' r 0 (rkAll 0 fi.rk ++ kos.flatMap KO.kinds) (us1 ++ us2) := by
                      refine FL_reI (fun b hb hnb hI => ?_) q3 (fun e he l v F hrd hF => ⟨F, hrd, fun b hb => .inr (hF b hb)⟩) (fun e id he _ ti l vs F hti hrd hF => ⟨F, hrd, fun b hb => .inr (hF b hb)⟩)
                      rcases hI with hI | hI
                      · rcases hb with hb | hb
                        · rw [hbeg.w0] at hb
                          exact absurd (r1.lt b hI) (by omega)
                        · exact (hbeg.Pm b hb).2.1 hI
                      · exact hnb hI
                    have hsz : w.heap.size ≤ w'.heap.size := by have := hkeep.size; rwa [hbeg.w0] at this
                    refine after_call r1 hbeg (gr := { gr with I := fun b => g1.I b ∨ gr.I b }) k1 k4 q1 q2 hf2 q4 (fun _ h => .inl h) (fun b hb => ?_) (fun j hj hI => ?_) (fun j hj => ?_) hkeep hnd hus1 hput
                    · rcases hb with hb | hb
                      · exact ⟨Nat.lt_of_lt_of_le (r1.lt b hb) hsz, .inl hb⟩
                      · obtain ⟨z1, z2⟩ := q5 b hb
                        rw [hI0, hbeg.w0] at z2
                        exact ⟨z1, z2⟩
                    · have hj' : j < Ac.m := by rw [hbeg.m]; exact hj
                      rcases hI with hI | hI
                      · rw [hbeg.pb j _ (List.getElem?_eq_getElem hj)] at hI
                        obtain ⟨t, cs, hc⟩ := hbeg.var _ (List.getElem_mem hj)
                        exact oblk_notI r1 hc rfl hI
                      · exact q6 j hj' hI
                    · obtain ⟨o', z1, z2⟩ := q7 j (by rw [hbeg.m]; exact hj)
                      exact ⟨o', z1, by rw [oblk_same rfl rfl rfl]; exact z2⟩
                  · simp at e
              | panicked ch => exact hen.elim
              | outgrown => exact hen.elim
            · simp at e
          · simp at e
        · simp at e
      · simp at e
    · simp at e
theorem callF_sound {cfg : Cfg} {G : Glob} (hty : TyOk P cfg.ty) (hm : P.follows .mixedOrders = true) (hfn : ∀ f fi, cfg.fn f = some fi → FnOk P G cfg.ty f fi) (k : Nat) : CallOK P G cfg.ty cfg.fn (callF cfg k) :=
  callF_ok hty hm hfn (fun cl hcl A hA => call_step hfn hcl A hA) k
end
end Go.Proofs.QV
#print axioms Go.Proofs.QV.callF_sound
