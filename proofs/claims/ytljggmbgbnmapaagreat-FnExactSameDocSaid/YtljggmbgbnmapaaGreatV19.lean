/- Code: what the evaluator comes to is what the machine comes to. -/
import Derived.Test.YtljggmbgbnmapaaGreatV18
namespace Go.Proofs.YtljggmbgbnmapaaGreatV
open Go
set_option linter.unusedVariables false
set_option linter.unusedSimpArgs false

section
variable {P : Program} {ty : Nat → Option TI} {fn : Nat → Option FI} {cl : Nat → Hint → List DC → Out} {A : An}

/-- What holds where a piece of code ends. -/
def EQ (ty : Nat → Option TI) (A : An) (rt : St → Out) (Γ : Nat → Option Hint) (o : Out) (K : St → Out) : Exit → Act → World → Prop
  | .normal, a, w => ∃ g st, Rel ty A g st a w ∧ K st = o
  | .exit id, a, w => ∃ g h v, Γ id = some h ∧ o = .ex id v ∧ Rel ty A g (mkSt h v) a w
  | .ret, a, w => ∃ g st, Rel ty A g st a w ∧ rt st = o
  | _, _, _ => False

theorem toNorm_some {mm : Nat} {h : Hint} {st : St} {o : Out} (e : toNorm ty mm h st = o) (ho : o ≠ .fail) : ∃ v, o = .norm v ∧ normS ty mm h st = some v := by
  unfold toNorm at e
  split at e
  · rename_i v hv
    exact ⟨v, e.symm, hv⟩
  · exact absurd e.symm ho

theorem exec_ok (hty : TyOk P ty) (hcall : CallStep P ty fn cl A) (hm : P.follows .mixedOrders = true) {mm lf : Nat} (hA : A.m = mm) {rt : St → Out} (hrt : ∀ st v, rt st ≠ .norm v) (hrx : ∀ st id v, rt st ≠ .ex id v) :
    ∀ (c : AC) (Γ : Nat → Option Hint) (st : St) (K : St → Out) (o : Out) (g : Gh) (a : Act) (w : World), Rel ty A g st a w → exec ty fn cl mm lf rt c Γ st K = o → o ≠ .fail → c.code.wp P (EQ ty A rt Γ o K) a w
  | .skip, Γ, st, K, o, g, a, w, h, e, ho => wp_skip ⟨g, st, h, e⟩
  | .region id ops draw ids none, Γ, st, K, o, g, a, w, h, e, ho => by
    rw [exec] at e
    rcases runR_some e with he | ⟨cs, st', h1, h2⟩
    · exact absurd he ho
    · cases hd : draw && !(drawOk ops cs) with
      | true => rw [hd] at h2; exact absurd h2.symm ho
      | false =>
        rw [hd] at h2
        exact region_ok hty hcall hm h h1 hd fun g' a' w' hr => ⟨g', st', hr, h2⟩
  | .region id ops draw ids (some hn), Γ, st, K, o, g, a, w, h, e, ho => by
    rw [exec] at e
    generalize hx : (runR ty fn cl Out.fail ops (zipI ops.toList ids) [] st fun cs st' => match draw && !(drawOk ops cs) with
      | true => .fail
      | false => toNorm ty mm hn st') = x at e
    rcases runR_some hx with he | ⟨cs, st', h1, h2⟩
    · rw [he] at e; exact absurd e.symm ho
    · cases hd : draw && !(drawOk ops cs) with
      | true => rw [hd] at h2; dsimp only at h2; rw [← h2] at e; exact absurd e.symm ho
      | false =>
        rw [hd] at h2
        dsimp only at h2
        have hxf : x ≠ .fail := by rintro rfl; exact ho e.symm
        obtain ⟨v, rfl, hv⟩ := toNorm_some h2 hxf
        exact region_ok hty hcall hm h h1 hd fun g' a' w' hr => by
          obtain ⟨g2, hr2⟩ := norm_ok hr hA hv
          exact ⟨g2, mkSt hn v, hr2, e⟩
  | .seq x y, Γ, st, K, o, g, a, w, h, e, ho => by
    rw [exec] at e
    refine wp_seq (wp_mono (exec_ok hty hcall hm hA hrt hrx x Γ st _ o g a w h e ho) fun ex a' w' hq => ?_)
    cases ex with
    | normal =>
      obtain ⟨g', st', hr, hk⟩ := hq
      exact exec_ok hty hcall hm hA hrt hrx y Γ st' K o g' a' w' hr hk ho
    | exit id => exact hq
    | ret => exact hq
    | goto l => exact hq.elim
    | panic c => exact hq.elim
    | outgrown => exact hq.elim
  | .cond c x y none, Γ, st, K, o, g, a, w, h, e, ho => by
    rw [exec] at e
    obtain ⟨tm, H⟩ := st
    split at e
    · rename_i b hb
      have hc := h.opd c
      dsimp only at hb
      rw [hb] at hc
      refine wp_cond (t := b) (show a.eval c = .bool b from hc) ?_
      cases b with
      | true => exact exec_ok hty hcall hm hA hrt hrx x Γ _ K o g a w h (by simpa using e) ho
      | false => exact exec_ok hty hcall hm hA hrt hrx y Γ _ K o g a w h (by simpa using e) ho
    · exact absurd e.symm ho
  | .cond c x y (some hn), Γ, st, K, o, g, a, w, h, e, ho => by
    rw [exec] at e
    obtain ⟨tm, H⟩ := st
    split at e
    · rename_i b hb
      have hc := h.opd c
      dsimp only at hb
      rw [hb] at hc
      refine wp_cond (t := b) (show a.eval c = .bool b from hc) ?_
      have fin : ∀ (z : AC) (i : Out), exec ty fn cl mm lf rt z Γ ⟨tm, H⟩ (toNorm ty mm hn) = i → i.andThen (fun v => K (mkSt hn v)) = o → (∀ (o' : Out), exec ty fn cl mm lf rt z Γ ⟨tm, H⟩ (toNorm ty mm hn) = o' → o' ≠ .fail → z.code.wp P (EQ ty A rt Γ o' (toNorm ty mm hn)) a w) →
          z.code.wp P (EQ ty A rt Γ o K) a w := by
        intro z i hi hio ih
        have hif : i ≠ .fail := by rintro rfl; exact ho hio.symm
        refine wp_mono (ih i hi hif) fun ex a' w' hq => ?_
        cases ex with
        | normal =>
          obtain ⟨g', st', hr, hk⟩ := hq
          obtain ⟨v, rfl, hv⟩ := toNorm_some hk hif
          obtain ⟨g2, hr2⟩ := norm_ok hr hA hv
          exact ⟨g2, mkSt hn v, hr2, hio⟩
        | exit id =>
          obtain ⟨g', h', v, k1, rfl, k3⟩ := hq
          exact ⟨g', h', v, k1, hio.symm, k3⟩
        | ret =>
          obtain ⟨g', st', hr, rfl⟩ := hq
          refine ⟨g', st', hr, ?_⟩
          rw [← hio]
          cases hrs : rt st' with
          | norm v => exact absurd hrs (hrt st' v)
          | ex id v => rfl
          | ret v => rfl
          | fail => rfl
        | goto l => exact hq.elim
        | panic c => exact hq.elim
        | outgrown => exact hq.elim
      cases b with
      | true => exact fin x _ rfl (by simpa using e) fun o' h1 h2 => exec_ok hty hcall hm hA hrt hrx x Γ _ _ o' g a w h h1 h2
      | false => exact fin y _ rfl (by simpa using e) fun o' h1 h2 => exec_ok hty hcall hm hA hrt hrx y Γ _ _ o' g a w h h1 h2
    · exact absurd e.symm ho
  | .block id body hn, Γ, st, K, o, g, a, w, h, e, ho => by
    rw [exec] at e
    generalize hi : exec ty fn cl mm lf rt body (fun j => if j = id then some hn else Γ j) st (toNorm ty mm hn) = i at e
    have hif : i ≠ .fail := by rintro rfl; exact ho e.symm
    refine wp_block (wp_mono (exec_ok hty hcall hm hA hrt hrx body _ st _ i g a w h hi hif) fun ex a' w' hq => ?_)
    cases ex with
    | normal =>
      obtain ⟨g', st', hr, hk⟩ := hq
      obtain ⟨v, rfl, hv⟩ := toNorm_some hk hif
      obtain ⟨g2, hr2⟩ := norm_ok hr hA hv
      exact ⟨g2, mkSt hn v, hr2, e⟩
    | exit j =>
      obtain ⟨g', h', v, k1, rfl, k3⟩ := hq
      simp only [Exit.inBlock]
      simp only [Out.andThenB] at e
      dsimp only at k1
      by_cases hj : j = id
      · rw [if_pos hj] at k1 e ⊢
        simp only [Option.some.injEq] at k1
        subst k1
        exact ⟨g', mkSt hn v, k3, e⟩
      · rw [if_neg hj] at k1 e ⊢
        exact ⟨g', h', v, k1, e.symm, k3⟩
    | ret =>
      obtain ⟨g', st', hr, rfl⟩ := hq
      refine ⟨g', st', hr, ?_⟩
      rw [← e]
      cases hrs : rt st' with
      | norm v => exact absurd hrs (hrt st' v)
      | ex id v => exact absurd hrs (hrx st' id v)
      | ret v => rfl
      | fail => rfl
    | goto l => exact hq.elim
    | panic c => exact hq.elim
    | outgrown => exact hq.elim
  | .loop body hn, Γ, st, K, o, g, a, w, h, e, ho => by
    rw [exec] at e
    split at e
    · rename_i v0 hv0
      obtain ⟨g0, hr0⟩ := norm_ok h hA hv0
      refine wp_loop_ghost (fun n a w => ∃ v g, Rel ty A g (mkSt hn v) a w ∧ loopF (fun v => exec ty fn cl mm lf rt body Γ (mkSt hn v) (toNorm ty mm hn)) n v = o) lf ⟨v0, g0, hr0, e⟩ fun n a w hI => ?_
      obtain ⟨v, g, hr, hl⟩ := hI
      cases n with
      | zero => exact absurd hl.symm ho
      | succ n =>
        rw [loopF] at hl
        generalize hi : exec ty fn cl mm lf rt body Γ (mkSt hn v) (toNorm ty mm hn) = i at hl
        have hif : i ≠ .fail := by rintro rfl; exact ho hl.symm
        refine wp_mono (exec_ok hty hcall hm hA hrt hrx body Γ _ _ i g a w hr hi hif) fun ex a' w' hq => ?_
        cases ex with
        | normal =>
          obtain ⟨g', st', hr, hk⟩ := hq
          obtain ⟨v', rfl, hv⟩ := toNorm_some hk hif
          obtain ⟨g2, hr2⟩ := norm_ok hr hA hv
          exact ⟨n, Nat.lt_succ_self n, v', g2, hr2, hl⟩
        | exit id =>
          obtain ⟨g', h', v', k1, rfl, k3⟩ := hq
          exact ⟨g', h', v', k1, hl.symm, k3⟩
        | ret =>
          obtain ⟨g', st', hr, rfl⟩ := hq
          refine ⟨g', st', hr, ?_⟩
          rw [← hl]
          cases hrs : rt st' with
          | norm v => exact absurd hrs (hrt st' v)
          | ex id v => rfl
          | ret v => rfl
          | fail => rfl
        | goto l => exact hq.elim
        | panic c => exact hq.elim
        | outgrown => exact hq.elim
    · exact absurd e.symm ho
  | .exit id, Γ, st, K, o, g, a, w, h, e, ho => by
    rw [exec] at e
    split at e
    · rename_i hn hg
      split at e
      · rename_i v hv
        obtain ⟨g2, hr2⟩ := norm_ok h hA hv
        exact wp_exit ⟨g2, hn, v, hg, e.symm, hr2⟩
      · exact absurd e.symm ho
    · exact absurd e.symm ho
  | .ret, Γ, st, K, o, g, a, w, h, e, ho => by
    rw [exec] at e
    exact wp_ret ⟨g, st, h, e⟩

end
end Go.Proofs.YtljggmbgbnmapaaGreatV
