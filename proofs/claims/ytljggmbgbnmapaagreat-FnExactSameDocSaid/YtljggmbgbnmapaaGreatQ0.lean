/- Sameness of data: loops that compare. -/
import Derived.Test.YtljggmbgbnmapaaGreatV34
namespace Go.Proofs.YtljggmbgbnmapaaGreatV
open Go
set_option linter.unusedVariables false
set_option linter.unusedSimpArgs false
set_option maxRecDepth 100000

/-- The same. -/
noncomputable def eqv {α : Type} (a b : α) : Bool := @decide (a = b) (Classical.propDecidable _)
theorem eqv_iff {α : Type} {a b : α} : eqv a b = true ↔ a = b := by
  unfold eqv
  exact @decide_eq_true_iff _ (Classical.propDecidable _)
theorem eqv_false {α : Type} {a b : α} : eqv a b = false ↔ ¬ a = b := by
  cases h : eqv a b with
  | false =>
    refine ⟨fun _ hab => ?_, fun _ => rfl⟩
    rw [eqv_iff.2 hab] at h
    cases h
  | true => exact ⟨fun h' => absurd h' (by decide), fun h' => absurd (eqv_iff.1 h) h'⟩
@[simp] theorem eqv_self {α : Type} (a : α) : eqv a a = true := eqv_iff.2 rfl
theorem beq_eqv {α : Type} [BEq α] [LawfulBEq α] (a b : α) : (a == b) = eqv a b := by
  rw [Bool.eq_iff_iff, beq_iff_eq, eqv_iff]
theorem bne_eqv {α : Type} [BEq α] [LawfulBEq α] (a b : α) : (a != b) = !eqv a b := by
  rw [bne, beq_eqv]
theorem len_eqv {α : Type} {l m : List α} (h : eqv l m = true) : l.length = m.length := by rw [eqv_iff.1 h]

theorem cmp_loop {α : Type} {l m : List α} {F : List DC → Out} {st : Nat → List DC} {fin : Out} (hlen : l.length = m.length)
    (hF : ∀ (i : Nat) (h : i < l.length) (h' : i < m.length), F (st i) = if eqv l[i] m[i] = true then .norm (st (i + 1)) else .ret [.b false])
    (hend : F (st l.length) = fin) (hfin : fin.esc) : Loop F (st 0) = if eqv l m = true then fin else .ret [.b false] := by
  have key : ∀ (n i : Nat), i + n = l.length → Loop F (st i) = if eqv (l.drop i) (m.drop i) = true then fin else .ret [.b false] := by
    intro n
    induction n with
    | zero =>
      intro i hi
      have : i = l.length := by omega
      subst this
      rw [List.drop_length, List.drop_of_length_le (by omega), Loop_esc hend hfin]
      simp
    | succ n ih =>
      intro i hi
      have h1 : i < l.length := by omega
      have h2 : i < m.length := by omega
      rw [List.drop_eq_getElem_cons h1, List.drop_eq_getElem_cons h2]
      cases he : eqv l[i] m[i] with
      | true =>
        rw [Loop_norm (by rw [hF i h1 h2, if_pos he]), ih (i + 1) (by omega)]
        have : eqv (l[i] :: l.drop (i + 1)) (m[i] :: m.drop (i + 1)) = eqv (l.drop (i + 1)) (m.drop (i + 1)) := by
          rw [Bool.eq_iff_iff, eqv_iff, eqv_iff, List.cons.injEq, eqv_iff.1 he]
          simp
        rw [this]
      | false =>
        rw [Loop_ret (r := [.b false]) (by rw [hF i h1 h2, he]; rfl)]
        have : eqv (l[i] :: l.drop (i + 1)) (m[i] :: m.drop (i + 1)) = false := by
          rw [eqv_false, List.cons.injEq]
          intro h
          exact eqv_false.1 he h.1
        rw [this]
        rfl
  have := key l.length 0 (by omega)
  rwa [List.drop_zero, List.drop_zero] at this

theorem cmp_at {α : Type} {l m : List α} {F : List DC → Out} {v0 : List DC} {fin : Out} (k : Nat) (h0 : v0.set k (.i ((0 : Nat) : Int)) = v0) (hlen : l.length = m.length)
    (hF : ∀ (i : Nat) (h : i < l.length) (h' : i < m.length), F (v0.set k (.i (i : Int))) = if eqv l[i] m[i] = true then .norm (v0.set k (.i ((i + 1 : Nat) : Int))) else .ret [.b false])
    (hend : F (v0.set k (.i (l.length : Int))) = fin) (hfin : fin.esc) : Loop F v0 = if eqv l m = true then fin else .ret [.b false] := by
  have := cmp_loop (st := fun i => v0.set k (.i (i : Int))) hlen hF hend hfin
  rw [h0] at this
  exact this

/-- 'for i < len(a) && i < len(b)', then the lengths. -/
theorem cmp2_at {α : Type} {l m : List α} {F : List DC → Out} {v0 : List DC} {fin : List DC} {id : Nat} (k : Nat) (h0 : v0.set k (.i ((0 : Nat) : Int)) = v0)
    (hF : ∀ (i : Nat) (h : i < l.length) (h' : i < m.length), F (v0.set k (.i (i : Int))) = if eqv l[i] m[i] = true then .norm (v0.set k (.i ((i + 1 : Nat) : Int))) else .ret [.b false])
    (hend : ∀ i : Nat, l.length ≤ i ∨ m.length ≤ i → F (v0.set k (.i (i : Int))) = .ex id fin) (K : List DC → Out) (hK : K fin = .ret [.b (eqv (l.length : Int) (m.length : Int))]) : (Loop F v0).andThenB id K = .ret [.b (eqv l m)] := by
  have key : ∀ (n i : Nat), i + n = l.length → (Loop F (v0.set k (.i (i : Int)))).andThenB id K = .ret [.b (eqv (l.length : Int) (m.length : Int) && eqv (l.drop i) (m.drop i))] ∨ False := by
    intro n
    induction n with
    | zero =>
      intro i hi
      left
      rw [Loop_ex (hend i (by omega))]
      simp only [Out.andThenB_ex, if_true, hK]
      congr 3
      have : i = l.length := by omega
      subst this
      rw [List.drop_length]
      cases hl : eqv (l.length : Int) (m.length : Int) with
      | false => rfl
      | true =>
        have := eqv_iff.1 hl
        rw [List.drop_of_length_le (by omega)]
        simp
    | succ n ih =>
      intro i hi
      left
      by_cases h2 : i < m.length
      · have h1 : i < l.length := by omega
        rw [List.drop_eq_getElem_cons h1, List.drop_eq_getElem_cons h2]
        cases he : eqv l[i] m[i] with
        | true =>
          rw [Loop_norm (by rw [hF i h1 h2, if_pos he])]
          rcases ih (i + 1) (by omega) with h | h
          · rw [h]
            congr 4
            rw [Bool.eq_iff_iff, eqv_iff, eqv_iff, List.cons.injEq, eqv_iff.1 he]
            simp
          · exact h.elim
        | false =>
          rw [Loop_ret (r := [.b false]) (by rw [hF i h1 h2, he]; rfl)]
          have : eqv (l[i] :: l.drop (i + 1)) (m[i] :: m.drop (i + 1)) = false := by
            rw [eqv_false, List.cons.injEq]
            intro h
            exact eqv_false.1 he h.1
          rw [this, Bool.and_false]
          rfl
      · rw [Loop_ex (hend i (by omega))]
        simp only [Out.andThenB_ex, if_true, hK]
        have : eqv (l.length : Int) (m.length : Int) = false := by rw [eqv_false]; omega
        rw [this]
        rfl
  rcases key l.length 0 (by omega) with h | h
  · rw [h0] at h
    rw [h, List.drop_zero, List.drop_zero]
    congr 3
    cases he : eqv l m with
    | true => rw [eqv_iff.1 he]; simp
    | false => rw [Bool.and_false]
  · exact h.elim

/-- The whole of a comparison of two slices. -/
theorem eqf_all {α : Type} {enc : α → List DC} {l m : List α} {F : List DC → Out} (sw : Bool) (hF : ∀ (i : Nat) (h : i < l.length) (h' : i < m.length), F [.sl ((if sw then m else l).map enc), .sl ((if sw then l else m).map enc), .i (l.length : Int), .i (i : Int)] = if eqv l[i] m[i] = true then .norm [.sl ((if sw then m else l).map enc), .sl ((if sw then l else m).map enc), .i (l.length : Int), .i ((i + 1 : Nat) : Int)] else .ret [.b false])
    (hend : F [.sl ((if sw then m else l).map enc), .sl ((if sw then l else m).map enc), .i (l.length : Int), .i (l.length : Int)] = .ex 0 []) :
    (if ((l.length : Int) != (m.length : Int)) = true then Out.ret [DC.b false]
    else Out.andThenB (Loop F [DC.sl ((if sw then m else l).map enc), DC.sl ((if sw then l else m).map enc), DC.i (l.length : Int), DC.i (0 : Int)]) 0 fun v4 => .ret [DC.b true]) = .ret [.b (eqv l m)] := by
  by_cases hlen : l.length = m.length
  · rw [if_neg (by simp [hlen])]
    have := cmp_loop (l := l) (m := m) (F := F) (st := fun i => [.sl ((if sw then m else l).map enc), .sl ((if sw then l else m).map enc), .i (l.length : Int), .i (i : Int)]) hlen hF hend (Out.esc_ex _ _)
    rw [show (0 : Int) = ((0 : Nat) : Int) from rfl, this]
    cases eqv l m <;> rfl
  · rw [if_pos (by simp; omega)]
    have : eqv l m = false := by
      rw [eqv_false]
      intro h
      exact hlen (by rw [h])
    rw [this]

end Go.Proofs.YtljggmbgbnmapaaGreatV
