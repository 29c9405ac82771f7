/- One operation, whichever: what the evaluator does is what the machine does. -/
import Derived.Test.YtljggmbgbnmapaaGreatV14
namespace Go.Proofs.YtljggmbgbnmapaaGreatV
open Go
set_option linter.unusedVariables false
set_option linter.unusedSimpArgs false

section
variable {P : Program} {ty : Nat → Option TI} {fn : Nat → Option FI} {cl : Nat → Hint → List DC → Out} {A : An}

/-- What is asked of calls. -/
def CallStep (P : Program) (ty : Nat → Option TI) (fn : Nat → Option FI) (cl : Nat → Hint → List DC → Out) (A : An) : Prop :=
  ∀ (o : Oper) (c : Call) (fop : Operand) (f : Nat) (caps : List Nat) (base : Nat) (tm : List C) (H H' : List HS) (v : C) (g : Gh) (a : Act) (w : World) (Q : Exit → Act → World → Prop),
    o.op = .call c → c.callee = .value fop → opd tm fop = .one (.fn f caps) → Rel ty A g ⟨tm, H⟩ a w →
    callR ty fn cl none base ⟨tm, H⟩ f caps (opds tm c.args.toList) (fun H v => some (H, v)) = some (H', v) → o.wp P a w (Post ty A g H w ⟨putC tm o.dst v, H'⟩) Q

theorem cls_some {α β : Type} {c c' : Cls} {a a' : α} {b b' : β} (h : some (c, a, b) = some (c', a', b')) : c = c' ∧ a = a' ∧ b = b' := by
  simpa using h

theorem step_ok (hty : TyOk P ty) (hcall : CallStep P ty fn cl A) {g : Gh} {tm : List C} {H H' : List HS} {a : Act} {w : World} {o : Oper} {Q : Exit → Act → World → Prop} {base : Nat} {c : Cls} {v : C}
    (h : Rel ty A g ⟨tm, H⟩ a w) (e : stepV ty fn cl none base o tm H (fun c H v => some (c, H, v)) = some (c, H', v)) : o.wp P a w (Post ty A g H w ⟨putC tm o.dst v, H'⟩) Q := by
  unfold stepV at e
  split at e
  · rename_i x ho
    obtain ⟨_, rfl, rfl⟩ := cls_some e
    exact step_move x (.inl ho) h
  · rename_i x ho
    obtain ⟨_, rfl, rfl⟩ := cls_some e
    exact step_move x (.inr ho) h
  · rename_i x y z ho
    split at e
    · rename_i b hx
      have second := step_pick2 (P := P) (Q := Q) x y z ho h hx
      split at e
      · rename_i s t hy hz
        have := step_pick (P := P) (Q := Q) x y z ho h hx hy hz
        split at e
        · rename_i r hr
          obtain ⟨_, rfl, rfl⟩ := cls_some e
          rw [hr] at this
          exact this
        · rename_i hr
          rw [hr] at this
          split at e
          · rename_i hb
            obtain ⟨_, rfl, rfl⟩ := cls_some e
            simpa [hb] using this
          · rename_i hb
            obtain ⟨_, rfl, rfl⟩ := cls_some e
            simpa [hb] using this
      · split at e
        · rename_i hb
          obtain ⟨_, rfl, rfl⟩ := cls_some e
          rw [if_pos hb] at second
          exact second
        · rename_i hb
          obtain ⟨_, rfl, rfl⟩ := cls_some e
          rw [if_neg hb] at second
          exact second
    · simp at e
  · rename_i t ho
    split at e
    · rename_i ti ht hf
      obtain ⟨_, rfl, rfl⟩ := cls_some e
      exact step_alloc hty t base ti ho h ht hf
    · simp at e
  · rename_i t x ho
    split at e
    · rename_i ti ss ht hx hf
      split at e
      · obtain ⟨_, rfl, rfl⟩ := cls_some e
        exact step_box t base ss x ho h hx hf
      · simp at e
    · simp at e
  · rename_i t parts ho
    split at e
    · rename_i ti ht
      split at e
      · rename_i ss hs
        split at e
        · rename_i hst
          obtain ⟨_, rfl, rfl⟩ := cls_some e
          exact step_build hty t parts ho h ht hst hs
        · simp at e
      · simp at e
    · simp at e
  · rename_i t n parts ho
    split at e
    · rename_i el ht
      split at e
      · rename_i te hte
        split at e
        · rename_i l H1 hr
          split at e
          · rename_i hf
            split at e
            · rename_i hc
              obtain ⟨_, rfl, rfl⟩ := cls_some e
              exact step_buildSlice hty t n parts base ho h ht hte hr hf hc
            · simp at e
          · simp at e
        · simp at e
      · simp at e
    · simp at e
  · rename_i t x ho
    rw [loadR_par] at e
    cases hl : loadR ty none t ⟨tm, H⟩ (opd tm x) fun c v => some (c, v) with
    | none => rw [hl] at e; simp [via] at e
    | some r =>
      rw [hl] at e
      obtain ⟨_, rfl, rfl⟩ := cls_some e
      exact step_load hty t x ho h (c := r.1) (v := r.2) hl
  · rename_i t x y ho
    split at e
    · rename_i hd
      rw [storeR_par] at e
      cases hl : storeR ty none t ⟨tm, H⟩ (opd tm x) (opd tm y) some with
      | none => rw [hl] at e; simp [via] at e
      | some r =>
        rw [hl] at e
        obtain ⟨_, rfl, rfl⟩ := cls_some e
        have := step_store (Q := Q) hty t x y ho hd h hl
        rw [hd]
        exact this
    · simp at e
  · rename_i x ho
    split at e
    · rename_i id off hx
      split at e
      · rename_i t cs hv
        obtain ⟨_, rfl, rfl⟩ := cls_some e
        exact step_nilCheck x ho h hx hv
      · simp at e
    · simp at e
  · rename_i op t x y t' ho
    rw [binR_par] at e
    cases hl : binR ty none op t (opd tm x) (opd tm y) some with
    | none => rw [hl] at e; simp [via] at e
    | some r =>
      rw [hl] at e
      obtain ⟨_, rfl, rfl⟩ := cls_some e
      exact step_bin hty op t t' x y ho h hl
  · rename_i op t x ho
    split at e
    · rename_i b hx
      obtain ⟨_, rfl, rfl⟩ := cls_some e
      exact step_not t x ho h hx
    · rename_i k n hx
      obtain ⟨_, rfl, rfl⟩ := cls_some e
      exact step_neg t x ho h hx
    · simp at e
  · rename_i s t x ho
    obtain ⟨rfl, h2⟩ := step_conv (Q := Q) hty s t x ho h e
    exact h2
  · rename_i f first captured ho
    split at e
    · rename_i fi hf
      split at e
      · rename_i ids hids
        obtain ⟨_, rfl, rfl⟩ := cls_some e
        exact step_makeFunc fi first captured ho hf h hids
      · simp at e
    · simp at e
  · rename_i t x y ho
    split at e
    · rename_i el m n ht hx hy
      split at e
      · rename_i te hte hf
        split at e
        · rename_i hc
          obtain ⟨_, rfl, rfl⟩ := cls_some e
          obtain ⟨h1, h2, rfl, h3, h4⟩ := hc
          exact step_makeSlice hty t x y base ho h ht hte hx hy hf ⟨h1, h2⟩ h3 h4
        · simp at e
      · simp at e
    · simp at e
  · rename_i t x lo hi mx ho
    split at e
    · exact step_slice hty t x lo hi ho h e
    · simp at e
  · rename_i t x j ho
    split at e
    · rename_i ti ht
      split at e
      · rename_i off n ag hj
        split at e
        · rename_i hc
          split at e
          · rename_i id o' hx
            split at e
            · rename_i t' cs hv
              obtain ⟨_, rfl, rfl⟩ := cls_some e
              exact step_fieldAddr hty t x j ho h ht hc.2 hj hc.1 (.inl ⟨_, _, _, _, hx, hv, rfl⟩)
            · simp at e
          · rename_i el y o' hx
            obtain ⟨_, rfl, rfl⟩ := cls_some e
            exact step_fieldAddr hty t x j ho h ht hc.2 hj hc.1 (.inr (.inl ⟨_, _, _, hx, rfl⟩))
          · rename_i el id ix o' hx
            split at e
            · rename_i e' l hv
              obtain ⟨_, rfl, rfl⟩ := cls_some e
              exact step_fieldAddr hty t x j ho h ht hc.2 hj hc.1 (.inr (.inr ⟨_, _, _, _, _, _, hx, hv, rfl⟩))
            · simp at e
          · simp at e
        · simp at e
      · simp at e
    · simp at e
  · rename_i t x j ho
    split at e
    · rename_i ti l ht hx
      split at e
      · rename_i off n ag hj
        split at e
        · rename_i hc
          obtain ⟨_, rfl, rfl⟩ := cls_some e
          exact step_field hty t x j ho h ht hc.2.2 hj hc.2.1 hx hc.1
        · simp at e
      · simp at e
    · simp at e
  · rename_i t x i ho
    split at e
    · rename_i el ht
      rw [indexR_par] at e
      cases hl : indexR none el ⟨tm, H⟩ (opd tm x) (opd tm i) fun c v => some (c, v) with
      | none => rw [hl] at e; simp [via] at e
      | some r =>
        rw [hl] at e
        obtain ⟨_, rfl, rfl⟩ := cls_some e
        exact step_indexAddr hty t x i ho h ht (cl := r.1) (c := r.2) hl
    · simp at e
  · rename_i t x i ho
    split at e
    · rename_i ti l k n ht hx hi
      split at e
      · rename_i hc
        obtain ⟨_, rfl, rfl⟩ := cls_some e
        exact step_index hty t x i ho h ht rfl hx hi hc
      · simp at e
    · simp at e
  · rename_i x j ho
    split at e
    · rename_i l hx
      split at e
      · rename_i ag ss hj
        obtain ⟨_, rfl, rfl⟩ := cls_some e
        exact step_extract x j ho h hx hj
      · simp at e
    · simp at e
  · rename_i c' ho
    split at e
    · rename_i fop hc
      split at e
      · rename_i f caps hf
        rw [callR_par] at e
        cases hl : callR ty fn cl none base ⟨tm, H⟩ f caps (opds tm c'.args.toList) fun H v => some (H, v) with
        | none => rw [hl] at e; simp [via] at e
        | some r =>
          rw [hl] at e
          obtain ⟨_, rfl, rfl⟩ := cls_some e
          exact hcall o c' fop f caps base tm H _ _ g a w Q ho hc hf h hl
      · simp at e
    · rename_i b hb
      split at e
      · rename_i x hx
        have fin : ∀ (t : TypeId) (ti : TI), c'.argTypes.toList = [t] → ty t = some ti → ((ti.kd = .str ∧ ∃ l, x = .one (.str l)) ∨ ((∃ e, ti.kd = .slice e) ∧ ∀ l, x ≠ .one (.str l))) →
            (lenR none ⟨tm, H⟩ x fun cl v => some (cl, H, v)) = some (c, H', v) → o.wp P a w (Post ty A g H w ⟨putC tm o.dst v, H'⟩) Q := by
          intro t ti h1 h2 h3 e
          rw [lenR_par] at e
          cases hl : lenR none ⟨tm, H⟩ x fun c v => some (c, v) with
          | none => rw [hl] at e; simp [via] at e
          | some r =>
            rw [hl] at e
            obtain ⟨_, rfl, rfl⟩ := cls_some e
            exact step_len hty ho hb h1 h h2 hx h3 (cl := r.1) (r := r.2) hl
        split at e
        · rename_i t hat
          split at e
          · rename_i ti ht
            split at e
            · rename_i l
              exact fin t _ hat ht (.inl ⟨rfl, l, rfl⟩) e
            · simp at e
          · rename_i ti ht
            split at e
            · simp at e
            · rename_i hno
              exact fin t _ hat ht (.inr ⟨⟨_, rfl⟩, fun l hl => hno l hl⟩) e
          · simp at e
        · simp at e
      · rename_i k m k' n hx
        obtain ⟨_, rfl, rfl⟩ := cls_some e
        exact step_min ho hb h hx
      · rename_i k m k' n hx
        obtain ⟨_, rfl, rfl⟩ := cls_some e
        exact step_max ho hb h hx
      · rename_i x y hx
        split at e
        · rename_i t u hat
          rw [appendR_par] at e
          cases hl : appendR ty none t u base ⟨tm, H⟩ x y fun H v => some (H, v) with
          | none => rw [hl] at e; simp [via] at e
          | some r =>
            rw [hl] at e
            obtain ⟨_, rfl, rfl⟩ := cls_some e
            exact step_append hty ho hb hat h hx hl
        · simp at e
      · simp at e
    · simp at e
  · simp at e

end
end Go.Proofs.YtljggmbgbnmapaaGreatV
