/- One operation: cuts; rows that are made, put together, grown. -/
import Derived.Test.YtljggmbgbnmapaaGreatV9
import Derived.Great.BuildSlice
import Derived.Lib.AppendStr
import Derived.Lib.Strings
namespace Go.Proofs.YtljggmbgbnmapaaGreatV
open Go
set_option linter.unusedVariables false

section
variable {P : Program} {ty : Nat → Option TI} {A : An} {g : Gh} {tm : List C} {H : List HS} {a : Act} {w : World} {o : Oper} {Q : Exit → Act → World → Prop}

theorem cutR_some {α ρ : Type} {lo hi : Option C} {l : List α} {k : List α → Option ρ} {r : ρ} (e : cutR none lo hi l k = some r) :
    ∃ m n : Nat, m ≤ n ∧ n ≤ l.length ∧ k ((l.take n).drop m) = some r ∧ ((lo = none ∧ m = 0) ∨ ∃ kd, lo = some (.one (.int kd (m : Int)))) ∧ ((hi = none ∧ n = l.length) ∨ ∃ kd, hi = some (.one (.int kd (n : Int)))) := by
  unfold cutR at e
  split at e
  · exact ⟨0, l.length, Nat.zero_le _, Nat.le_refl _, by simpa using e, .inl ⟨rfl, rfl⟩, .inl ⟨rfl, rfl⟩⟩
  · rename_i kd m
    split at e
    · rename_i hc
      exact ⟨m.toNat, l.length, by omega, Nat.le_refl _, by simpa using e, .inr ⟨kd, by rw [Int.toNat_of_nonneg hc.1]⟩, .inl ⟨rfl, rfl⟩⟩
    · simp at e
  · rename_i kd n
    split at e
    · rename_i hc
      exact ⟨0, n.toNat, Nat.zero_le _, by omega, by simpa using e, .inl ⟨rfl, rfl⟩, .inr ⟨kd, by rw [Int.toNat_of_nonneg hc.1]⟩⟩
    · simp at e
  · rename_i kd m kd' n
    split at e
    · rename_i hc
      exact ⟨m.toNat, n.toNat, by omega, by omega, e, .inr ⟨kd, by rw [Int.toNat_of_nonneg hc.1]⟩, .inr ⟨kd', by rw [Int.toNat_of_nonneg (by omega)]⟩⟩
    · simp at e
  · simp at e

theorem run_bounds {P : Program} (sl : Bool) (len cap m n : Nat) (lo hi : Option Value) (h1 : m ≤ n) (h2 : n ≤ len) (h3 : len ≤ cap)
    (hl : (lo = none ∧ m = 0) ∨ ∃ kd, lo = some (.int kd (m : Int))) (hh : (hi = none ∧ n = len) ∨ ∃ kd, hi = some (.int kd (n : Int))) (w : World) :
    (Instr.sliceBounds sl len cap lo hi none).run P w = .ok (m, n, cap) w := by
  have a1 : (m : Int) ≤ (n : Int) := by omega
  have a2 : (n : Int) ≤ (cap : Int) := by omega
  rcases hl with ⟨rfl, rfl⟩ | ⟨kl, rfl⟩ <;> rcases hh with ⟨rfl, rfl⟩ | ⟨kh, rfl⟩ <;>
    simp [Instr.sliceBounds, run_sliceBound, a1, a2]

theorem lift_opd (h : Rel ty A g ⟨tm, H⟩ a w) {lo : Option Operand} {m : Nat} {d : Nat} (hl : (lo.map (opd tm) = none ∧ m = d) ∨ ∃ kd, lo.map (opd tm) = some (.one (.int kd (m : Int)))) :
    (lo.map a.eval = none ∧ m = d) ∨ ∃ kd, lo.map a.eval = some (.int kd (m : Int)) := by
  cases lo with
  | none =>
    rcases hl with ⟨_, hl⟩ | ⟨_, hl⟩
    · exact .inl ⟨rfl, hl⟩
    · simp at hl
  | some x =>
    rcases hl with ⟨hl, _⟩ | ⟨kd, hl⟩
    · simp at hl
    · simp only [Option.map_some, Option.some.injEq] at hl ⊢
      have := h.opd x
      rw [hl] at this
      exact .inr ⟨kd, this⟩

/-- A cut reads as the cut list. -/
theorem cut_ok {e : Nat} {ti : TI} {l : List (List DC)} {v : Value} {F : List Nat} (hr : RdC ty w (.sl e) (.sl l) v F) (ht : ty e = some ti) {m n : Nat} (h1 : m ≤ n) (h2 : n ≤ l.length) :
    ∃ ad cap, v = .slice ad l.length cap ∧ (l.length ≤ cap) ∧ ∃ F', RdC ty w (.sl e) (.sl ((l.take n).drop m)) (sliced ad m n cap ti.cts.length) F' ∧ ∀ b ∈ F', b ∈ F := by
  cases hr with
  | nil =>
    rename_i ad cap
    simp at h2
    obtain rfl : n = 0 := h2
    obtain rfl : m = 0 := by omega
    refine ⟨ad, cap, rfl, Nat.zero_le _, [], ?_, fun _ h => by cases h⟩
    simp only [List.take_nil, List.drop_nil, sliced, Nat.sub_self]
    exact .nil _ _ _
  | sl _ ti' b off k cap _ vs F k1 k0 k2 k3 k4 k5 k6 =>
    obtain rfl : ti = ti' := by rw [ht] at k1; exact Option.some.inj k1
    subst k2
    refine ⟨_, _, rfl, k4, ?_⟩
    by_cases hmn : m = n
    · subst hmn
      refine ⟨[], ?_, fun _ h => by cases h⟩
      have : (l.take m).drop m = [] := by apply List.drop_of_length_le; simp; omega
      rw [this, sliced, Nat.sub_self]
      exact .nil _ _ _
    · obtain ⟨F1, r1, i1⟩ := k6.take n
      obtain ⟨F2, r2, i2⟩ := r1.drop m
      have hne : (l.take n).drop m ≠ [] := by
        intro h
        have := congrArg List.length h
        simp at this
        omega
      refine ⟨b :: F2, ?_, fun c hc => ?_⟩
      · have hcap : ¬ cap = m := by omega
        simp only [sliced, if_neg hcap, Option.map_some, Addr.add_lit]
        refine .sl e ti b _ _ _ _ _ F2 ht k0 (by simp; omega) hne (by omega) (fun j v hj => ?_) r2
        rw [List.getElem?_drop] at hj
        have : v = v ∧ vs[m * ti.cts.length + j]? = some v := by
          refine ⟨rfl, ?_⟩
          rw [List.getElem?_take] at hj
          split at hj
          · exact hj
          · simp at hj
        rw [Nat.add_assoc]
        exact k5 _ v this.2
      · rcases List.mem_cons.1 hc with rfl | hc
        · simp
        · simp [i1 c (i2 c hc)]

theorem run_slice_gen {P : Program} {t e : Nat} (hu : P.underlying t = some (.slice e)) {inf : TypeInfo} (hi : P.info? e = some inf) (ad : Option Addr) (len cap m n : Nat) (lo hi' : Option Value) (h1 : m ≤ n) (h2 : n ≤ len) (h3 : len ≤ cap)
    (hl : (lo = none ∧ m = 0) ∨ ∃ kd, lo = some (.int kd (m : Int))) (hh : (hi' = none ∧ n = len) ∨ ∃ kd, hi' = some (.int kd (n : Int))) (w : World) :
    (Instr.sliceAt t (.slice ad len cap) lo hi' none).run P w = .ok (sliced ad m n cap inf.size) w := by
  have he : P.elem t = e := by simp [Program.elem, hu]
  have hu' : P.underlying t = some (.slice (P.elem t)) := by rw [he]; exact hu
  rw [run_sliceAt_slice w t _ _ _ _ hu', run_slice_any w t _ _ _ hu', run_bounds true len cap m n lo hi' h1 h2 h3 hl hh, Result.andThen_ok, he, run_sizeOf hi, Result.andThen_ok]

theorem step_slice (hty : TyOk P ty) (t : TypeId) (x : Operand) (lo hi : Option Operand) (ho : o.op = .slice t x lo hi none) (h : Rel ty A g ⟨tm, H⟩ a w) {cl : Cls} {H' : List HS} {c : C}
    (e : sliceR (ρ := Option (Cls × List HS × C)) ty none t ⟨tm, H⟩ (opd tm x) (lo.map (opd tm)) (hi.map (opd tm)) (fun cl H c => some (cl, H, c)) = some (cl, H', c)) :
    o.wp P a w (Post ty A g H w ⟨putC tm o.dst c, H'⟩) Q := by
  have rx := h.opd x
  unfold sliceR at e
  have sl : ∀ (ti te : TI) (el : Nat) (g' : Gh) (H1 : List HS) (l : List (List DC)) (F : List Nat) (m n : Nat), ty t = some ti → ti.kd = .slice el → ty el = some te → Rel ty A g' ⟨tm, H1⟩ a w → (∀ b, g.I b → g'.I b) →
      RdC ty w (.sl el) (.sl l) (a.eval x) F → (∀ b ∈ F, g'.I b) → m ≤ n → n ≤ l.length →
      ((lo.map (opd tm) = none ∧ m = 0) ∨ ∃ kd, lo.map (opd tm) = some (.one (.int kd (m : Int)))) → ((hi.map (opd tm) = none ∧ n = l.length) ∨ ∃ kd, hi.map (opd tm) = some (.one (.int kd (n : Int)))) →
      c = .one (.sl el ((l.take n).drop m)) → H' = H1 → o.wp P a w (Post ty A g H w ⟨putC tm o.dst c, H'⟩) Q := by
    intro ti te el g' H1 l F m n ht hk hte hr hI hrd hF h1 h2 hlo hhi hc hH
    subst hH
    obtain ⟨inf, z, hinf, hsz, _⟩ := (hty el te hte).info
    obtain ⟨ad, cap, hv, hcap, F', r', i'⟩ := cut_ok hrd hte h1 h2
    refine wp_value (v := sliced ad m n cap te.cts.length) (w' := w) ?_ ⟨g', hr.put o.dst (by rw [hc]; exact ⟨F', r', fun b hb => hF b (i' b hb)⟩), hI⟩
    have := run_slice_gen (kd_slice hty ht hk) hinf ad l.length cap m n _ _ h1 h2 hcap (lift_opd h hlo) (lift_opd h hhi) w
    simp only [execOp, ho, hv, Option.map_none]
    rw [Sem.run_bind, this, hsz]
    rfl
  split at e
  · rename_i ti ht
    split at e
    · rename_i l hk hx
      rw [hx] at rx
      have ex : a.eval x = .string ⟨l.toArray⟩ := rx
      obtain ⟨m, n, h1, h2, h3, h4, h5⟩ := cutR_some e
      simp only [Option.some.injEq, Prod.mk.injEq] at h3
      obtain ⟨_, rfl, rfl⟩ := h3
      have hs : (ByteArray.mk l.toArray).size = l.length := by simp [ByteArray.size]
      refine wp_value (v := .string ⟨((l.take n).drop m).toArray⟩) (w' := w) ?_ (post_put h rfl)
      have hu := kd_str hty ht hk
      have hb := run_bounds (P := P) false l.length l.length m n _ _ h1 h2 (Nat.le_refl _) (lift_opd h h4) (lift_opd h h5) w
      have hcut : (ByteArray.mk l.toArray).extract m n = ⟨((l.take n).drop m).toArray⟩ := by
        apply ByteArray.ext
        apply Array.toList_inj.1
        rw [Lib.extract_data]
        simp [List.drop_take]
      simp only [execOp, ho, ex, Option.map_none]
      rw [Sem.run_bind, run_sliceAt_string w t _ _ _ _ hu]
      simp [Instr.slice, run_underlying hu, hs, hb, hcut]
    · rename_i el el' l hk hx
      rw [hx] at rx
      split at e
      · rename_i hee
        obtain ⟨rfl, hte⟩ := hee
        obtain ⟨te, hte⟩ := Option.isSome_iff_exists.1 hte
        obtain ⟨m, n, h1, h2, h3, h4, h5⟩ := cutR_some e
        simp only [Option.some.injEq, Prod.mk.injEq] at h3
        obtain ⟨_, h3, h3'⟩ := h3
        obtain ⟨F, r1, r2⟩ := rx
        exact sl ti te el' g H l F m n ht hk hte h (fun _ h => h) r1 r2 h1 h2 h4 h5 h3'.symm h3.symm
      · simp at e
    · rename_i el id hk hx
      rw [hx] at rx
      split at e
      · rename_i e' l hr
        split at e
        · rename_i hee
          obtain ⟨rfl, hte⟩ := hee
          obtain ⟨te, hte⟩ := Option.isSome_iff_exists.1 hte
          obtain ⟨m, n, h1, h2, h3, h4, h5⟩ := cutR_some e
          simp only [Option.some.injEq, Prod.mk.injEq] at h3
          obtain ⟨_, h3, h3'⟩ := h3
          obtain ⟨g', r1, c1, F, r2, i2⟩ := h.freeze hr
          have hval := (c1.row id (nf_live hr) ⟨e', l, .inr (getH_set_same _ (getH_lt_live hr))⟩).2
          exact sl ti te e' g' _ l F m n ht hk hte r1 c1.I (by rw [rx.2.2 ⟨_, _, .inl hr⟩, ← hval]; exact r2) i2 h1 h2 h4 h5 h3'.symm h3.symm
        · simp at e
      · rename_i e' l hr
        split at e
        · rename_i hee
          obtain ⟨rfl, hte⟩ := hee
          obtain ⟨te, hte⟩ := Option.isSome_iff_exists.1 hte
          obtain ⟨m, n, h1, h2, h3, h4, h5⟩ := cutR_some e
          simp only [Option.some.injEq, Prod.mk.injEq] at h3
          obtain ⟨_, h3, h3'⟩ := h3
          obtain ⟨F, r1, r2⟩ := h.ob id _ hr
          exact sl ti te e' g H l F m n ht hk hte h (fun _ h => h) (by rw [rx.2.2 ⟨_, _, .inr hr⟩]; exact r1) r2 h1 h2 h4 h5 h3'.symm h3.symm
        · simp at e
      · simp at e
    · simp at e
  · simp at e

end
end Go.Proofs.YtljggmbgbnmapaaGreatV
