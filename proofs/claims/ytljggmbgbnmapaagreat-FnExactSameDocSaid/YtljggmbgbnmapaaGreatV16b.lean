/- What is read stays where a new variable is made; what makes a new variable looks at nothing else. -/
import Derived.Test.YtljggmbgbnmapaaGreatV16
namespace Go.Proofs.YtljggmbgbnmapaaGreatV
open Go
set_option linter.unusedVariables false
set_option linter.unusedSimpArgs false

section
variable {ty : Nat → Option TI} {fn : Nat → Option FI} {cl : Nat → Hint → List DC → Out}

theorem getH_set_self {H : List HS} {b : Nat} {x : HS} (h : getH H b = .free) : getH (setH H b x) b = x := by
  simp only [getH, setH, List.getD_eq_getElem?_getD] at h ⊢
  have : b < H.length := by
    rcases Nat.lt_or_ge b H.length with h' | h'
    · exact h'
    · rw [List.getElem?_eq_none h'] at h; simp at h
  rw [List.getElem?_set_self this]
  rfl

theorem getH_keep {H : List HS} {b id : Nat} {x : HS} {o : Obj'} (hf : getH H b = .free) (h : getH H id = .live o) : getH (setH H b x) id = .live o := by
  rw [getH_set_ne, h]
  intro hb
  subst hb
  rw [hf] at h
  simp at h

theorem sliceOf_keep {H : List HS} {b : Nat} {x : HS} {s : S} {r : Nat × List (List DC)} (hf : getH H b = .free) (h : sliceOf H s = some r) : sliceOf (setH H b x) s = some r := by
  unfold sliceOf at h ⊢
  split at h
  · exact h
  · rename_i id
    split at h
    · rename_i hl; rw [getH_keep hf hl]; exact h
    · rename_i hl; rw [getH_keep hf hl]; exact h
    · simp at h
  · simp at h

theorem convR_r {s t : Nat} {tm : List C} {x : C} {H H' : List HS} {b : Nat} {hs : HS} {v : C} (hf : getH H b = .free) (e : convR ty (none : V3) s t ⟨tm, H⟩ x mk3 = some (.r, H', v)) : convR ty (none : V3) s t ⟨tm, setH H b hs⟩ x mk3 = some (.r, setH H b hs, v) := by
  have key : ∀ {s r}, sliceOf H s = some r → sliceOf (setH H b hs) s = some r := fun h => sliceOf_keep hf h
  unfold convR at e ⊢
  dsimp only at e ⊢
  repeat' split at e
  all_goals first
    | (simp at e; done)
    | (obtain ⟨h1, rfl, rfl⟩ := cls_some e; first | (simp at h1; done) | skip)
  all_goals rename_i hl _
  all_goals
    have hl2 := key hl
    simp_all

/-- What is read stays where a new variable is made. -/
theorem stepV_r {base b : Nat} {o : Oper} {tm : List C} {H H' : List HS} {hs : HS} {v : C} (hf : getH H b = .free) (e : stepV ty fn cl (none : V3) base o tm H mk3 = some (.r, H', v)) : stepV ty fn cl (none : V3) base o tm (setH H b hs) mk3 = some (.r, setH H b hs, v) := by
  obtain ⟨dst, op, type, pos, after, guard⟩ := o
  cases op with
  | convert s t x => exact convR_r hf e
  | load t x =>
    simp only [stepV] at e
    unfold loadR at e
    dsimp only at e
    repeat' split at e
    all_goals simp at e
  | slice t x lo hi mx =>
    cases mx with
    | none =>
      simp only [stepV, sliceR] at e
      repeat' split at e
      all_goals first
        | (simp at e; done)
        | (obtain ⟨l', h1, h2⟩ := cutR_some2 e; obtain ⟨h3, _⟩ := cls_some h2; simp at h3)
    | some m => simp [stepV] at e
  | indexAddr t x i =>
    simp only [stepV] at e
    unfold indexR at e
    dsimp only at e
    repeat' split at e
    all_goals simp at e
  | binOp op t x y t' =>
    simp only [stepV] at e
    rw [binR_par] at e
    cases hl : binR ty none op t (opd tm x) (opd tm y) some with
    | none => rw [hl] at e; simp [via] at e
    | some r => rw [hl] at e; simp [via] at e
  | store t a x =>
    simp only [stepV] at e
    split at e
    · rw [storeR_par] at e
      cases hl : storeR ty none t ⟨tm, H⟩ (opd tm a) (opd tm x) some with
      | none => rw [hl] at e; simp [via] at e
      | some r =>
        rw [hl] at e
        obtain ⟨h, _⟩ := cls_some e
        unfold stCls at h
        split at h <;> simp at h
    · simp at e
  | call c =>
    cases hc : c.callee with
    | value f =>
      simp only [stepV, hc] at e
      split at e
      · rename_i f' caps hfn
        rw [callR_par] at e
        cases hl : callR ty fn cl none base ⟨tm, H⟩ f' caps (opds tm c.args.toList) fun H v => some (H, v) with
        | none => rw [hl] at e; simp [via] at e
        | some r =>
          rw [hl] at e
          obtain ⟨hcl, rfl, rfl⟩ := cls_some e
          exfalso
          unfold callCls at hcl
          split at hcl
          · simp at hcl
          · split at hcl <;> simp at hcl
      · simp at e
    | invoke r m => simp [stepV, hc] at e
    | builtin bn =>
      simp only [stepV, hc] at e
      have ln : ∀ (x : C), (lenR (none : V3) ⟨tm, H⟩ x fun c v => mk3 c H v) = some (.r, H', v) → False := by
        intro x e
        unfold lenR at e
        dsimp only at e
        repeat' split at e
        all_goals simp at e
      split at e
      · exfalso
        split at e
        · split at e
          · split at e
            · exact ln _ e
            · simp at e
          · split at e
            · simp at e
            · exact ln _ e
          · simp at e
        · simp at e
      · simp at e
      · simp at e
      · split at e
        · rw [appendR_par] at e
          cases hl : appendR ty none _ _ base ⟨tm, H⟩ _ _ fun H v => some (H, v) with
          | none => rw [hl] at e; simp [via] at e
          | some r => rw [hl] at e; simp [via] at e
        · simp at e
      · simp at e
  | _ =>
    simp only [stepV] at e
    repeat' split at e
    all_goals simp at e

/-- What reads one object looks at nothing else. -/
theorem stepV_rv {base id : Nat} {o : Oper} {tm : List C} {H H' : List HS} {v : C} (e : stepV ty fn cl (none : V3) base o tm H mk3 = some (.rv id, H', v)) :
    H' = H ∧ (∃ ob, getH H id = .live ob) ∧ ∀ H3, getH H3 id = getH H id → stepV ty fn cl (none : V3) base o tm H3 mk3 = some (.rv id, H3, v) := by
  obtain ⟨dst, op, type, pos, after, guard⟩ := o
  cases op with
  | load t x =>
    simp only [stepV] at e ⊢
    unfold loadR at e ⊢
    dsimp only at e ⊢
    repeat' split at e
    all_goals first
      | (simp at e; done)
      | (obtain ⟨h1, rfl, rfl⟩ := cls_some e; first | (simp at h1; done) | skip)
    all_goals
      simp only [Cls.rv.injEq] at h1
      subst h1
      refine ⟨rfl, ⟨_, by assumption⟩, fun H3 h3 => ?_⟩
      simp_all
  | indexAddr t x i =>
    simp only [stepV] at e ⊢
    unfold indexR at e ⊢
    dsimp only at e ⊢
    repeat' split at e
    all_goals first
      | (simp at e; done)
      | (obtain ⟨h1, rfl, rfl⟩ := cls_some e; first | (simp at h1; done) | skip)
    all_goals
      simp only [Cls.rv.injEq] at h1
      subst h1
      refine ⟨rfl, ⟨_, by assumption⟩, fun H3 h3 => ?_⟩
      simp_all
  | nilCheck x =>
    simp only [stepV] at e ⊢
    repeat' split at e
    all_goals first
      | (simp at e; done)
      | (obtain ⟨h1, rfl, rfl⟩ := cls_some e; first | (simp at h1; done) | skip)
    all_goals
      simp only [Cls.rv.injEq] at h1
      subst h1
      refine ⟨rfl, ⟨_, by assumption⟩, fun H3 h3 => ?_⟩
      simp_all
  | fieldAddr t x j =>
    simp only [stepV] at e ⊢
    repeat' split at e
    all_goals first
      | (simp at e; done)
      | (obtain ⟨h1, rfl, rfl⟩ := cls_some e; first | (simp at h1; done) | skip)
    all_goals
      simp only [Cls.rv.injEq] at h1
      subst h1
      refine ⟨rfl, ⟨_, by assumption⟩, fun H3 h3 => ?_⟩
      simp_all
  | slice t x lo hi mx =>
    cases mx with
    | some m => simp [stepV] at e
    | none =>
      simp only [stepV, sliceR] at e ⊢
      split at e
      · rename_i ti ht
        split at e
        · obtain ⟨l', h1, h2⟩ := cutR_some2 e
          obtain ⟨h3, _⟩ := cls_some h2
          simp at h3
        · split at e
          · obtain ⟨l', h1, h2⟩ := cutR_some2 e
            obtain ⟨h3, _⟩ := cls_some h2
            simp at h3
          · simp at e
        · split at e
          · split at e
            · obtain ⟨l', h1, h2⟩ := cutR_some2 e
              obtain ⟨h3, _⟩ := cls_some h2
              simp at h3
            · simp at e
          · rename_i hl
            split at e
            · rename_i hc
              obtain ⟨l', h1, h2⟩ := cutR_some2 e
              obtain ⟨h3, rfl, rfl⟩ := cls_some h2
              simp only [Cls.rv.injEq] at h3
              subst h3
              refine ⟨rfl, ⟨_, hl⟩, fun H3 h3 => ?_⟩
              rw [h3, hl]
              dsimp only
              rw [if_pos hc]
              exact cutR_of h1
            · simp at e
          · simp at e
        · simp at e
      · simp at e
  | convert s t x =>
    simp only [stepV] at e
    unfold convR at e
    dsimp only at e
    repeat' split at e
    all_goals simp at e
  | binOp op t x y t' =>
    simp only [stepV] at e
    rw [binR_par] at e
    cases hl : binR ty none op t (opd tm x) (opd tm y) some with
    | none => rw [hl] at e; simp [via] at e
    | some r => rw [hl] at e; simp [via] at e
  | store t a x =>
    simp only [stepV] at e
    split at e
    · rw [storeR_par] at e
      cases hl : storeR ty none t ⟨tm, H⟩ (opd tm a) (opd tm x) some with
      | none => rw [hl] at e; simp [via] at e
      | some r =>
        rw [hl] at e
        obtain ⟨h, _⟩ := cls_some e
        unfold stCls at h
        split at h <;> simp at h
    · simp at e
  | call c =>
    cases hc : c.callee with
    | value f =>
      simp only [stepV, hc] at e
      split at e
      · rename_i f' caps hfn
        rw [callR_par] at e
        cases hl : callR ty fn cl none base ⟨tm, H⟩ f' caps (opds tm c.args.toList) fun H v => some (H, v) with
        | none => rw [hl] at e; simp [via] at e
        | some r =>
          rw [hl] at e
          obtain ⟨hcl, rfl, rfl⟩ := cls_some e
          exfalso
          unfold callCls at hcl
          split at hcl
          · simp at hcl
          · split at hcl <;> simp at hcl
      · simp at e
    | invoke r m => simp [stepV, hc] at e
    | builtin bn =>
      simp only [stepV, hc] at e ⊢
      have ln : ∀ (x : C), (lenR (none : V3) ⟨tm, H⟩ x fun c v => mk3 c H v) = some (.rv id, H', v) → H' = H ∧ (∃ ob, getH H id = .live ob) ∧ ∀ H3, getH H3 id = getH H id → (lenR (none : V3) ⟨tm, H3⟩ x fun c v => mk3 c H3 v) = some (.rv id, H3, v) := by
        intro x e
        unfold lenR sliceOf at e ⊢
        dsimp only at e ⊢
        split at e
        · simp at e
        · simp at e
        · simp at e
        · rename_i id'
          cases hg : getH H id' with
          | live ob =>
            rw [hg] at e
            cases ob with
            | var t cs => simp at e
            | row e2 l =>
              simp only [] at e
              obtain ⟨h1, rfl, rfl⟩ := cls_some e
              simp only [Cls.rv.injEq] at h1
              subst h1
              exact ⟨rfl, ⟨_, hg⟩, fun H3 h3 => by rw [h3, hg]⟩
            | fz e2 l =>
              simp only [] at e
              obtain ⟨h1, rfl, rfl⟩ := cls_some e
              simp only [Cls.rv.injEq] at h1
              subst h1
              exact ⟨rfl, ⟨_, hg⟩, fun H3 h3 => by rw [h3, hg]⟩
          | free => rw [hg] at e; simp at e
          | dead => rw [hg] at e; simp at e
        · simp at e
      split at e
      · split at e
        · split at e
          · split at e
            · exact ln _ e
            · simp at e
          · split at e
            · simp at e
            · exact ln _ e
          · simp at e
        · simp at e
      · simp at e
      · simp at e
      · split at e
        · rw [appendR_par] at e
          cases hl : appendR ty none _ _ base ⟨tm, H⟩ _ _ fun H v => some (H, v) with
          | none => rw [hl] at e; simp [via] at e
          | some r => rw [hl] at e; simp [via] at e
        · simp at e
      · simp at e
  | _ =>
    simp only [stepV] at e
    repeat' split at e
    all_goals simp at e

/-- What writes one variable looks at nothing else. -/
theorem stepV_st {base id : Nat} {o : Oper} {tm : List C} {H H' : List HS} {v : C} (e : stepV ty fn cl (none : V3) base o tm H mk3 = some (.st id, H', v)) :
    ∃ x, H' = setH H id x ∧ ∀ H3, getH H3 id = getH H id → stepV ty fn cl (none : V3) base o tm H3 mk3 = some (.st id, setH H3 id x, v) := by
  obtain ⟨dst, op, type, pos, after, guard⟩ := o
  cases op with
  | store t a x =>
    simp only [stepV] at e ⊢
    split at e
    · rw [storeR_par] at e
      cases hl : storeR ty none t ⟨tm, H⟩ (opd tm a) (opd tm x) some with
      | none => rw [hl] at e; simp [via] at e
      | some r =>
        rw [hl] at e
        obtain ⟨h, h2, h4⟩ := cls_some e
        unfold stCls at h
        split at h
        · rename_i id' off ha
          simp only [Cls.st.injEq] at h
          subst h
          rw [ha] at hl
          unfold storeR at hl
          split at hl
          · rename_i ti ss ht hx
            split at hl
            · rename_i hss
              dsimp only at hl
              split at hl
              · rename_i t' cs hg
                split at hl
                · rename_i hle
                  simp only [Option.some.injEq] at hl
                  refine ⟨_, by rw [← h2, ← hl], fun H3 h3 => ?_⟩
                  rw [ha]
                  unfold storeR
                  simp only [ht, hx]
                  rw [if_pos hss]
                  rw [h3, hg]
                  simp only [hle, if_true, ← h4]
                  rfl
                · simp at hl
              · simp at hl
            · simp at hl
          · simp at hl
        · simp at h
    · simp at e
  | load t x =>
    simp only [stepV] at e
    unfold loadR at e
    dsimp only at e
    repeat' split at e
    all_goals simp at e
  | indexAddr t x i =>
    simp only [stepV] at e
    unfold indexR at e
    dsimp only at e
    repeat' split at e
    all_goals simp at e
  | slice t x lo hi mx =>
    cases mx with
    | none =>
      simp only [stepV, sliceR] at e
      repeat' split at e
      all_goals first
        | (simp at e; done)
        | (obtain ⟨l', h1, h2⟩ := cutR_some2 e; obtain ⟨h3, _⟩ := cls_some h2; simp at h3)
    | some m => simp [stepV] at e
  | convert s t x =>
    simp only [stepV] at e
    unfold convR at e
    dsimp only at e
    repeat' split at e
    all_goals simp at e
  | binOp op t x y t' =>
    simp only [stepV] at e
    rw [binR_par] at e
    cases hl : binR ty none op t (opd tm x) (opd tm y) some with
    | none => rw [hl] at e; simp [via] at e
    | some r => rw [hl] at e; simp [via] at e
  | call c =>
    cases hc : c.callee with
    | value f =>
      simp only [stepV, hc] at e
      split at e
      · rename_i f' caps hfn
        rw [callR_par] at e
        cases hl : callR ty fn cl none base ⟨tm, H⟩ f' caps (opds tm c.args.toList) fun H v => some (H, v) with
        | none => rw [hl] at e; simp [via] at e
        | some r =>
          rw [hl] at e
          obtain ⟨hcl, rfl, rfl⟩ := cls_some e
          exfalso
          unfold callCls at hcl
          split at hcl
          · simp at hcl
          · split at hcl <;> simp at hcl
      · simp at e
    | invoke r m => simp [stepV, hc] at e
    | builtin bn =>
      simp only [stepV, hc] at e
      have ln : ∀ (x : C), (lenR (none : V3) ⟨tm, H⟩ x fun c v => mk3 c H v) = some (.st id, H', v) → False := by
        intro x e
        unfold lenR at e
        dsimp only at e
        repeat' split at e
        all_goals simp at e
      split at e
      · exfalso
        split at e
        · split at e
          · split at e
            · exact ln _ e
            · simp at e
          · split at e
            · simp at e
            · exact ln _ e
          · simp at e
        · simp at e
      · simp at e
      · simp at e
      · split at e
        · rw [appendR_par] at e
          cases hl : appendR ty none _ _ base ⟨tm, H⟩ _ _ fun H v => some (H, v) with
          | none => rw [hl] at e; simp [via] at e
          | some r => rw [hl] at e; simp [via] at e
        · simp at e
      · simp at e
  | _ =>
    simp only [stepV] at e
    repeat' split at e
    all_goals simp at e

/-- What makes a new variable. -/
theorem stepV_n {base : Nat} {o : Oper} {tm : List C} {H H' : List HS} {v : C} (e : stepV ty fn cl (none : V3) base o tm H mk3 = some (.n, H', v)) :
    getH H base = .free ∧ ∃ ob, H' = setH H base (.live ob) ∧ ∀ H3, getH H3 base = .free → stepV ty fn cl (none : V3) base o tm H3 mk3 = some (.n, setH H3 base (.live ob), v) := by
  obtain ⟨dst, op, type, pos, after, guard⟩ := o
  cases op with
  | alloc t =>
    simp only [stepV] at e ⊢
    split at e
    · rename_i ti ht hb
      obtain ⟨_, rfl, rfl⟩ := cls_some e
      exact ⟨hb, _, rfl, fun H3 h3 => by simp only [ht, h3]⟩
    · simp at e
  | box t x =>
    simp only [stepV] at e ⊢
    split at e
    · rename_i ti ss ht hx hb
      split at e
      · rename_i hl
        obtain ⟨_, rfl, rfl⟩ := cls_some e
        exact ⟨hb, _, rfl, fun H3 h3 => by simp only [ht, hx, h3, hl, if_true]⟩
      · simp at e
    · simp at e
  | load t x =>
    simp only [stepV] at e
    unfold loadR at e
    dsimp only at e
    repeat' split at e
    all_goals simp at e
  | convert s t x =>
    simp only [stepV] at e
    unfold convR at e
    dsimp only at e
    repeat' split at e
    all_goals simp at e
  | slice t x lo hi mx =>
    cases mx with
    | none =>
      simp only [stepV, sliceR] at e
      repeat' split at e
      all_goals first
        | (simp at e; done)
        | (obtain ⟨l', h1, h2⟩ := cutR_some2 e; obtain ⟨h3, _⟩ := cls_some h2; simp at h3)
    | some m => simp [stepV] at e
  | indexAddr t x i =>
    simp only [stepV] at e
    unfold indexR at e
    dsimp only at e
    repeat' split at e
    all_goals simp at e
  | binOp op t x y t' =>
    simp only [stepV] at e
    rw [binR_par] at e
    cases hl : binR ty none op t (opd tm x) (opd tm y) some with
    | none => rw [hl] at e; simp [via] at e
    | some r => rw [hl] at e; simp [via] at e
  | store t a x =>
    simp only [stepV] at e
    split at e
    · rw [storeR_par] at e
      cases hl : storeR ty none t ⟨tm, H⟩ (opd tm a) (opd tm x) some with
      | none => rw [hl] at e; simp [via] at e
      | some r =>
        rw [hl] at e
        obtain ⟨h, _⟩ := cls_some e
        unfold stCls at h
        split at h <;> simp at h
    · simp at e
  | call c =>
    cases hc : c.callee with
    | value f =>
      simp only [stepV, hc] at e
      split at e
      · rename_i f' caps hfn
        rw [callR_par] at e
        cases hl : callR ty fn cl none base ⟨tm, H⟩ f' caps (opds tm c.args.toList) fun H v => some (H, v) with
        | none => rw [hl] at e; simp [via] at e
        | some r =>
          rw [hl] at e
          obtain ⟨hcl, rfl, rfl⟩ := cls_some e
          exfalso
          unfold callCls at hcl
          split at hcl
          · simp at hcl
          · split at hcl <;> simp at hcl
      · simp at e
    | invoke r m => simp [stepV, hc] at e
    | builtin bn =>
      simp only [stepV, hc] at e
      have ln : ∀ (x : C), (lenR (none : V3) ⟨tm, H⟩ x fun c v => mk3 c H v) = some (.n, H', v) → False := by
        intro x e
        unfold lenR at e
        dsimp only at e
        repeat' split at e
        all_goals simp at e
      split at e
      · exfalso
        split at e
        · split at e
          · split at e
            · exact ln _ e
            · simp at e
          · split at e
            · simp at e
            · exact ln _ e
          · simp at e
        · simp at e
      · simp at e
      · simp at e
      · split at e
        · rw [appendR_par] at e
          cases hl : appendR ty none _ _ base ⟨tm, H⟩ _ _ fun H v => some (H, v) with
          | none => rw [hl] at e; simp [via] at e
          | some r => rw [hl] at e; simp [via] at e
        · simp at e
      · simp at e
  | _ =>
    simp only [stepV] at e
    repeat' split at e
    all_goals simp at e

end
end Go.Proofs.YtljggmbgbnmapaaGreatV
