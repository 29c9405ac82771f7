/- One operation: stores. -/
import Derived.Test.YtljggmbgbnmapaaGreatV5
namespace Go.Proofs.YtljggmbgbnmapaaGreatV
open Go
set_option linter.unusedVariables false

section
variable {P : Program} {ty : Nat → Option TI} {A : An} {g : Gh} {tm : List C} {H : List HS} {a : Act} {w : World} {o : Oper} {Q : Exit → Act → World → Prop}

theorem oblk_other (h : Rel ty A g ⟨tm, H⟩ a w) {id i b : Nat} {x p : Obj'} (hi : getH H id = .live x) (hb : oblk g id x = some b) (hne : i ≠ id) (hp : getH H i = .live p) : oblk g i p ≠ some b :=
  fun hk => h.sep i id p x b hne hp hi hk hb

theorem oblk_notI (h : Rel ty A g ⟨tm, H⟩ a w) {id b : Nat} {x : Obj'} (hi : getH H id = .live x) (hb : oblk g id x = some b) : ¬ g.I b := by
  cases x with
  | var t cs => obtain ⟨_, _, _, k, _⟩ := h.ob id _ hi; simp only [oblk, Option.some.injEq] at hb; subst hb; exact k
  | row e l => obtain ⟨_, _, _, _, _, _, _, _, k⟩ := h.ob id _ hi; exact k b hb
  | fz e l => simp [oblk] at hb

theorem owOk_ne {A : An} {b c : Nat} {x : Obj'} (h : owOk A b x) (hc : c < A.w0.heap.size) (hv : ¬ A.Pv c) (hm : ¬ A.Pm c) : c ≠ b := by
  rintro rfl
  cases x <;> simp only [owOk] at h <;> rcases h with h | h <;> first | omega | exact hv h | exact hm h

/-- A variable's cells are written. -/
theorem Rel.setVar (h : Rel ty A g ⟨tm, H⟩ a w) {id t off : Nat} {cs ss : List S} {vs : List Value} (hv : getH H id = .live (.var t cs)) (hs : SRL ty g H w ss vs) (h1 : ∀ u ∈ vs, u.oneCell' = true)
    (hfit : off + ss.length ≤ cs.length) : ∃ cur, w.heap[g.blk id]? = some (.cells cur t (0, 0)) ∧ cur.size = cs.length ∧
      Rel ty A g ⟨tm, setH H id (.live (.var t (setRun cs off ss)))⟩ a (w.setRow (g.blk id) (cur.toList.take off ++ vs ++ cur.toList.drop (off + vs.length)).toArray) := by
  obtain ⟨us, k1, k2, k3, k4⟩ := h.ob id _ hv
  have hlen := k2.length
  have hsl := hs.length
  refine ⟨us.toArray, k1, by simp [hlen], (h.upd (id := id) (g' := g) (x := .live (.var t (setRun cs off ss))) (getH_lt_live hv) (by simp) rfl (fun _ _ => ⟨rfl, rfl⟩) (fun _ hr => ?_) (fun _ hr => ⟨⟨_, _, hv⟩, rfl⟩) (fun b hb => ?_) ?_ (fun c o ho => ?_) (fun hm hr => h.pb id hm ⟨_, _, hv⟩) ?_).1⟩
  · obtain ⟨e, l, hr⟩ := hr; simp [getH_set_same _ (getH_lt_live hv)] at hr
  · refine setRow_other _ _ _ _ ?_
    rintro rfl
    rcases hb with hb | ⟨i, p, hne, hi, hb⟩
    · exact k3 hb
    · exact oblk_other h hv rfl hne hi hb
  · simp [World.setRow]
  · obtain rfl : Obj'.var t (setRun cs off ss) = o := by simpa using ho
    refine ⟨⟨us.take off ++ vs ++ us.drop (off + vs.length), setRow_heap _ _ _ _ _ _ k1, ?_, k3, fun u hu => ?_⟩, fun b hb => ?_⟩
    · have := (k2.take off).append (hs.append (k2.drop (off + ss.length)))
      have := SRL.mono c this
      rw [List.append_assoc]
      rw [← hsl] at this
      simpa [setRun, hsl] using this
    · simp only [List.mem_append] at hu
      rcases hu with (hu | hu) | hu
      · exact k4 u (List.mem_of_mem_take hu)
      · exact h1 u hu
      · exact k4 u (List.mem_of_mem_drop hu)
    · simp only [oblk, Option.some.injEq] at hb
      subst hb
      exact ⟨k3, h.ow id (.var t cs) _ hv rfl, fun i p hne hi => oblk_other h hv rfl hne hi⟩
  · refine h.keep.trans rfl rfl rfl (by simp [World.setRow]) fun b hb hp hm => setRow_other _ _ _ _ (owOk_ne (h.ow id _ _ hv rfl) hb hp hm)

/-- Cells in the midst of a list. -/
theorem mid_list {α : Type} (P u R : List α) (off : Nat) (new : List α) (h : off + new.length ≤ u.length) :
    (P ++ (u ++ R)).take (P.length + off) ++ (new ++ (P ++ (u ++ R)).drop (P.length + off + new.length)) = P ++ ((u.take off ++ (new ++ u.drop (off + new.length))) ++ R) := by
  have e1 : (P ++ (u ++ R)).take (P.length + off) = P ++ u.take off := by
    rw [List.take_append, List.take_of_length_le (by omega), Nat.add_sub_cancel_left, List.take_append, show off - u.length = 0 by omega]
    simp
  have e2 : (P ++ (u ++ R)).drop (P.length + off + new.length) = u.drop (off + new.length) ++ R := by
    rw [List.drop_append, List.drop_of_length_le (by omega), show P.length + off + new.length - P.length = off + new.length by omega, List.drop_append, show off + new.length - u.length = 0 by omega]
    simp
  rw [e1, e2]
  simp

theorem take_mid {α : Type} (X vs : List α) (m p : Nat) (h : p + vs.length ≤ m) (hm : m ≤ X.length) :
    (X.take p ++ vs ++ X.drop (p + vs.length)).take m = (X.take m).take p ++ (vs ++ (X.take m).drop (p + vs.length)) := by
  apply List.ext_getElem?
  intro j
  rw [List.append_assoc, List.getElem?_take]
  by_cases h1 : j < p
  · rw [if_pos (by omega), List.getElem?_append_left (by simp; omega), List.getElem?_append_left (by simp; omega), List.getElem?_take, if_pos h1, List.getElem?_take, if_pos h1, List.getElem?_take, if_pos (by omega)]
  · have hp : (X.take p).length = p := by simp; omega
    have hp' : ((X.take m).take p).length = p := by simp; omega
    by_cases h2 : j < p + vs.length
    · rw [if_pos (by omega), List.getElem?_append_right (by omega), List.getElem?_append_left (by omega), List.getElem?_append_right (by omega), List.getElem?_append_left (by omega), hp, hp']
    · by_cases h3 : j < m
      · rw [if_pos h3, List.getElem?_append_right (by omega), List.getElem?_append_right (by omega), List.getElem?_append_right (by omega), List.getElem?_append_right (by omega), hp, hp',
          List.getElem?_drop, List.getElem?_drop, List.getElem?_take, if_pos (by omega)]
      · rw [if_neg h3, List.getElem?_eq_none]
        simp
        omega

/-- An element's cells are written, in a row of the call's own. -/
theorem Rel.setElem (h : Rel ty A g ⟨tm, H⟩ a w) {id e ix off : Nat} {te : TI} {l : List (List DC)} {ts : List CT} {ds : List DC} {vs : List Value} {F : List Nat} (hte : ty e = some te)
    (hr : getH H id = .live (.row e l)) (hd : RdL ty w ts ds vs F) (hF : ∀ b ∈ F, g.I b) (hts : (te.cts.drop off).take ts.length = ts) (hix : ix < l.length) (h0 : 0 < ts.length)
    {b len cap : Nat} (hval : g.val id = .slice (some ⟨b, 0, none⟩) len cap) :
    ∃ cur, w.heap[b]? = some (.cells cur e (0, 0)) ∧ ix * te.cts.length + off + vs.length ≤ cur.size ∧
      Rel ty A g ⟨tm, setH H id (.live (.row e (l.set ix (setRunD (l.getD ix []) off ds))))⟩ a
        (w.setRow b (cur.toList.take (ix * te.cts.length + off) ++ vs ++ cur.toList.drop (ix * te.cts.length + off + vs.length)).toArray) := by
  obtain ⟨te', us, G, k1, k0, k2, k3, k4, k5⟩ := h.ob id _ hr
  obtain rfl : te = te' := by rw [hte] at k1; exact Option.some.inj k1
  have hvl := hd.length
  have hsub : off + ts.length ≤ te.cts.length := by
    have := congrArg List.length hts
    simp at this
    omega
  obtain ⟨u, G1, q1, q2, q3⟩ := k3.at ix hix
  have hul := q1.length
  have hmul : ix * te.cts.length + te.cts.length ≤ l.length * te.cts.length := by
    have := Nat.mul_le_mul_right te.cts.length (show ix + 1 ≤ l.length by omega)
    rw [Nat.succ_mul] at this
    exact this
  have husl := k3.length
  -- the element's new cells
  obtain ⟨F1, r1, i1⟩ := q1.take off
  obtain ⟨F2, r2, i2⟩ := q1.drop (off + ts.length)
  have hrow : ∃ F3, RdL ty w te.cts (setRunD (l.getD ix []) off ds) (u.take off ++ (vs ++ u.drop (off + vs.length))) F3 ∧ ∀ c ∈ F3, g.I c := by
    refine ⟨F1 ++ (F ++ F2), ?_, fun c hc => ?_⟩
    · have := r1.append (hd.append r2)
      have e : te.cts.take off ++ (ts ++ te.cts.drop (off + ts.length)) = te.cts := by
        rw [← hts, List.length_take, List.length_drop, Nat.min_eq_left (by omega), ← List.drop_drop, List.take_append_drop, List.take_append_drop]
      rw [e] at this
      simpa [setRunD, hvl.1, hvl.2] using this
    · simp only [List.mem_append] at hc
      rcases hc with hc | hc | hc
      · exact k4 c (q2 c (i1 c hc))
      · exact hF c hc
      · exact k4 c (q2 c (i2 c hc))
  obtain ⟨F3, hrow, hF3⟩ := hrow
  obtain ⟨F4, hset, i4⟩ := k3.set ix _ _ _ hrow hix
  have huR : us = us.take (ix * te.cts.length) ++ (u ++ us.drop (ix * te.cts.length + te.cts.length)) := by
    apply List.ext_getElem?
    intro j
    by_cases h1 : j < ix * te.cts.length
    · rw [List.getElem?_append_left (by simp; omega), List.getElem?_take, if_pos h1]
    · rw [List.getElem?_append_right (by simp; omega), List.length_take, Nat.min_eq_left (by omega)]
      by_cases h2 : j - ix * te.cts.length < te.cts.length
      · rw [List.getElem?_append_left (by omega), ← q3 _ h2]
        congr 1
        omega
      · rw [List.getElem?_append_right (by omega), List.getElem?_drop]
        congr 1
        omega
  have hmid := mid_list (us.take (ix * te.cts.length)) u (us.drop (ix * te.cts.length + te.cts.length)) off vs (by omega)
  rw [List.length_take, Nat.min_eq_left (by omega), ← huR] at hmid
  rcases k2.2 with ⟨hv, _⟩ | ⟨k, cap', cur, hv, hk, hg, hnc, hcm, hcs, htake⟩
  · rw [hval] at hv; simp at hv
  · rw [hval] at hv
    simp only [Value.slice.injEq, Option.some.injEq, Addr.mk.injEq, and_true] at hv
    obtain ⟨rfl, rfl, rfl⟩ := hv
    have hcap : l.length * te.cts.length ≤ cap * te.cts.length := Nat.mul_le_mul_right _ hnc
    refine ⟨cur, hg, by omega, (h.upd (id := id) (g' := g) (x := .live (.row e _)) (getH_lt_live hr) (by simp) rfl (fun _ _ => ⟨rfl, rfl⟩) (fun _ _ => ⟨⟨_, _, .inl hr⟩, rfl⟩) (fun _ hx => ?_) (fun c hc => ?_) ?_ (fun ch x hx => ?_) (fun hm hx => ?_) ?_).1⟩
    · obtain ⟨t, cs, hx⟩ := hx; simp [getH_set_same _ (getH_lt_live hr)] at hx
    · refine setRow_other _ _ _ _ ?_
      rintro rfl
      rcases hc with hc | ⟨i, p, hne, hi, hc⟩
      · exact k5 c (by rw [hval]; rfl) hc
      · exact oblk_other h hr (show oblk g id (.row e l) = some c by simp only [oblk, hval]; rfl) hne hi hc
    · simp [World.setRow]
    · obtain rfl : Obj'.row e (l.set ix (setRunD (l.getD ix []) off ds)) = x := by simpa using hx
      refine ⟨⟨te, _, F4, hte, k0, ?_, hset.frame fun c hc => ?_, fun c hc => ?_, k5⟩, fun c hc => ?_⟩
      · rw [hval]
        refine ⟨?_, .inr ⟨b, cap, _, ?_, Nat.zero_le _, setRow_heap _ _ _ _ _ _ hg, ?_, hcm, ?_, ?_⟩⟩
        · have := hset.length; exact this
        · simp
        · simpa using hnc
        · simp only [List.size_toArray, List.length_append, List.length_take, List.length_drop, Array.length_toList]
          omega
        · rw [List.length_set, ← hmid, ← htake]
          exact take_mid _ _ _ _ (by omega) (by simp; omega)
      · refine ch.Iw _ ?_
        rcases i4 c hc with hc | hc
        · exact k4 c hc
        · exact hF3 c hc
      · rcases i4 c hc with hc | hc
        · exact k4 c hc
        · exact hF3 c hc
      · exact ⟨oblk_notI h hr (show oblk g id (.row e l) = some c from hc), h.ow id (.row e l) _ hr hc, fun i p hne hi => oblk_other h hr (show oblk g id (.row e l) = some c from hc) hne hi⟩
    · obtain ⟨t, cs, hx⟩ := hx; simp [getH_set_same _ (getH_lt_live hr)] at hx
    · refine h.keep.trans rfl rfl rfl (by simp [World.setRow]) fun c hc hp hm => setRow_other _ _ _ _ (owOk_ne (h.ow id (.row e l) b hr (by simp only [oblk, hval]; rfl)) hc hp hm)
theorem step_store (hty : TyOk P ty) (t : Nat) (x y : Operand) (ho : o.op = .store t x y) (hd : o.dst = none) (h : Rel ty A g ⟨tm, H⟩ a w) {H' : List HS}
    (e : storeR (ρ := Option (List HS)) ty none t ⟨tm, H⟩ (opd tm x) (opd tm y) (fun H => some H) = some H') :
    o.wp P a w (Post ty A g H w ⟨tm, H'⟩) Q := by
  unfold storeR at e
  have hx := h.opd x
  have hy := h.opd y
  split at e
  · rename_i ti ss ht hss
    have htk := hty t ti ht
    obtain ⟨vs, v1, v2, v3, v4⟩ := cells_ok hy hss
    split at e
    · rename_i hlen
      have fin : ∀ (b off : Nat) (e' : TypeId) (cur : Array Value) (g' : Gh) (H2 : List HS), a.eval x = .pointer (some ⟨b, off, none⟩) → w.heap[b]? = some (.cells cur e' (0, 0)) → off + vs.length ≤ cur.size →
          (∀ k, g.I k → g'.I k) → Rel ty A g' ⟨tm, H2⟩ a (w.setRow b (cur.toList.take off ++ vs ++ cur.toList.drop (off + vs.length)).toArray) → H2 = H' → o.wp P a w (Post ty A g H w ⟨tm, H'⟩) Q := by
        intro b off e' cur g' H2 hp hg hfit hI hrel hH
        subst hH
        refine wp_skip_op (w' := w.setRow b (cur.toList.take off ++ vs ++ cur.toList.drop (off + vs.length)).toArray) ?_ ⟨g', by rw [hd]; exact hrel, hI⟩
        simp [execOp, ho, Instr.storeAt, hp, Instr.sureAddr, run_storeVar htk w b off e' cur (a.eval y) vs v1 (by rw [v4]; exact hlen.1) hg hfit v3]
      split at e
      · rename_i id off hid
        rw [hid] at hx
        split at e
        · rename_i t' cs hv
          split at e
          · rename_i hfit
            obtain ⟨cur, k1, k2, k3⟩ := h.setVar hv v2 v3 hfit
            exact fin _ off _ cur g _ (hx.2.2 ⟨_, _, hv⟩) k1 (by omega) (fun _ h => h) k3 (by simpa using e)
          · simp at e
        · simp at e
      · rename_i el id ix off hid
        rw [hid] at hx
        split at e
        · rename_i te ds H1 hte hds
          split at e
          · rename_i hsame
            split at e
            · rename_i e' l hrow
              split at e
              · rename_i hee
                subst hee
                obtain ⟨g1, F, r1, c1, d1, i1⟩ := toDCs_ok h v2 hds
                have hx1 := CR.mono c1 hx
                obtain ⟨ti', b, len, cap, h1, h2, h3, h4⟩ := hx1.2 ⟨_, _, .inl hrow⟩
                obtain rfl : te = ti' := by rw [hte] at h1; exact Option.some.inj h1
                have hll : l.length = len := by
                  obtain ⟨_, _, _, _, _, k2, _⟩ := r1.ob id _ hrow
                  rcases k2.2 with ⟨hv, _⟩ | ⟨_, _, _, hv, _⟩
                  · rw [h2] at hv; simp at hv
                  · rw [h2] at hv; simp at hv; exact hv.2.1.symm
                have hixl : ix < l.length := by omega
                have h0 : 0 < ti.cts.length := by omega
                obtain ⟨cur, k1, k2, k3⟩ := r1.setElem hte hrow d1 i1 (CT.sameL_eq hsame) hixl h0 h2
                exact fin b _ _ cur g1 _ h4 k1 k2 c1.I k3 (by simpa using e)
              · simp at e
            · simp at e
          · simp at e
        · simp at e
      · simp at e
    · simp at e
  · simp at e

end
end Go.Proofs.YtljggmbgbnmapaaGreatV
