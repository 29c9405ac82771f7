import Derived.Test.YthbcjkppdjpihaaGreatDoorMA8
import Derived.Test.YthbcjkppdjpihaaGreatDoorMA6
import Derived.Lib.ParseIntB
import Derived.Test.YthbcjkppdjpihaaGreatDoorMA5
/- Figures and numbers: what both implementations answer. -/
namespace Go.Proofs.QV
open Go
set_option linter.unusedVariables false
set_option linter.unusedSimpArgs false
set_option maxRecDepth 100000
theorem u8_eq (x : UInt8) (n : Nat) (hn : n < 256) : ((x.toNat : Int) == (n : Int)) = (x == UInt8.ofNat n) := by
  rw [Bool.eq_iff_iff, beq_iff_eq, beq_iff_eq, ← UInt8.toNat_inj]
  simp only [UInt8.toNat_ofNat', Nat.mod_eq_of_lt hn]
  omega
def isFig (b : UInt8) : Bool := decide (48 ≤ b.toNat) && decide (b.toNat ≤ 57)
def tw (l : List UInt8) : Nat := (l.takeWhile isFig).length
theorem tw_le (l : List UInt8) : tw l ≤ l.length := by
  have := (List.takeWhile_prefix isFig (l := l)).length_le
  exact this
theorem spec_l03Figure (b : UInt8) : r_spec_l03Figure [.i (b.toNat : Int)] = .ret [.b (isFig b)] := by
  rw [eq_spec_l03Figure]
  simp only [E_spec_l03Figure, List.getD_cons_zero, List.getD_cons_succ, DC.bb_b, DC.ii_i, isFig]
  by_cases h : 48 ≤ b.toNat
  · have h1 : (b.toNat : Int) ≥ 48 := by omega
    simp [h, h1]
    omega
  · have h1 : ¬ (b.toNat : Int) ≥ 48 := by omega
    simp [h, h1]
theorem impl_isFigure (b : UInt8) : r_impl_isFigure [.i (b.toNat : Int)] = .ret [.b (isFig b)] := by
  rw [eq_impl_isFigure]
  simp only [E_impl_isFigure, List.getD_cons_zero, List.getD_cons_succ, DC.bb_b, DC.ii_i, isFig]
  by_cases h : 48 ≤ b.toNat
  · have h1 : (b.toNat : Int) ≥ 48 := by omega
    simp [h, h1]
    omega
  · have h1 : ¬ (b.toNat : Int) ≥ 48 := by omega
    simp [h, h1]
theorem goF_run (f : UInt8 → Bool) : ∀ (l : List UInt8) (i : Nat), goF (fun x => !f x) (fun i _ => .ex 0 [.i (i : Int)]) (.ex 0 [.i ((i + l.length : Nat) : Int)]) i l = .ex 0 [.i ((i + (l.takeWhile f).length : Nat) : Int)]
  | [], i => rfl
  | x :: l, i => by
    rw [goF]
    cases h : f x with
    | false => simp [h]
    | true =>
      have := goF_run f l (i + 1)
      simp only [List.length_cons, List.takeWhile_cons, h, if_true, Bool.not_true, Bool.false_eq_true, if_false]
      rw [show i + (l.length + 1) = i + 1 + l.length by omega, this]
      congr 4
      omega
theorem spec_l03Run (s : List UInt8) (i : Nat) (hi : i ≤ s.length) (hs : s.length ≤ 1048576) : r_spec_l03Run [.s s, .i (i : Int)] = .ret [.i ((i + tw (s.drop i) : Nat) : Int)] := by
  rw [eq_spec_l03Run]
  simp only [E_spec_l03Run, List.getD_cons_zero, List.getD_cons_succ, DC.bb_b, DC.ii_i, DC.ss_s]
  have := Loop_find (l := s) (st := fun i => [.s s, .i (i : Int)]) (p := fun x => !isFig x) (stop := fun i _ => .ex 0 [.i (i : Int)]) (fin := .ex 0 [.i (s.length : Int)]) (F := E_spec_l03RunL1) (fun i hi => ?step) (fun _ _ => Out.esc_ex _ _) ?fin (Out.esc_ex _ _) (s.length - i) i (by omega)
  · have e : ((s.length : Nat) : Int) = ((i + (s.drop i).length : Nat) : Int) := by rw [List.length_drop]; omega
    rw [e, goF_run isFig (s.drop i) i] at this
    rw [this]
    rfl
  case step =>
    have hg : s.getD i 0 = s[i] := by rw [List.getD_eq_getElem?_getD, List.getElem?_eq_getElem hi]; rfl
    simp only [E_spec_l03RunL1, List.getD_cons_zero, List.getD_cons_succ, DC.bb_b, DC.ii_i, DC.ss_s, Int.toNat_natCast, hg, spec_l03Figure]
    cases hf : isFig s[i] <;> simp [hi, hf, wrap_succ hi (show s.length ≤ 9223372036854775807 by omega)]
  case fin => simp [E_spec_l03RunL1]
def sgn (s : List UInt8) : Nat := if s.head? = some 45 then 1 else 0
theorem sgn_le (s : List UInt8) : sgn s ≤ s.length := by
  unfold sgn
  split
  · rename_i h
    cases s with
    | nil => simp at h
    | cons _ _ => simp
  · omega
def intLen (s : List UInt8) : Nat := if tw (s.drop (sgn s)) = 0 then 0 else if s.getD (sgn s) 0 = 48 ∧ 1 < tw (s.drop (sgn s)) then 0 else sgn s + tw (s.drop (sgn s))
theorem spec_l03Int (s : List UInt8) (hs : s.length ≤ 1048576) : r_spec_l03Int [.s s] = .ret [.i (intLen s : Int)] := by
  rw [eq_spec_l03Int]
  cases s with
  | nil =>
    have hr : r_spec_l03Run [.s [], .i 0] = .ret [.i 0] := spec_l03Run [] 0 (by simp) (by simp)
    simp [E_spec_l03Int, hr, intLen, sgn, tw]
  | cons a l =>
    have hpos : decide (((a :: l).length : Int) > 0) = true := by simp
    have hpos' : 0 ≤ (0 : Int) ∧ (0 : Int) < ((a :: l).length : Int) := by simp
    have h0 : (a :: l).getD (0 : Int).toNat 0 = a := rfl
    by_cases h : a = 45
    · subst h
      have hsg : sgn (45 :: l) = 1 := rfl
      have hr : r_spec_l03Run [.s (45 :: l), .i 1] = .ret [.i ((1 + tw l : Nat) : Int)] := spec_l03Run (45 :: l) 1 (by simp) hs
      have h45 : (((45 : UInt8).toNat : Int) == 45) = true := rfl
      simp only [E_spec_l03Int, List.getD_cons_zero, List.getD_cons_succ, DC.bb_b, DC.ii_i, DC.ss_s, hpos, hpos', if_true, and_self, decide_true, h0, h45, Out.andThen_norm, hr, Out.bindR_ret]
      have hil : intLen (45 :: l) = if tw l = 0 then 0 else if l.getD 0 0 = 48 ∧ 1 < tw l then 0 else 1 + tw l := rfl
      have hle := tw_le l
      rw [hil]
      rcases Nat.eq_zero_or_pos (tw l) with ht | ht
      · simp [ht]
      · have hl : l ≠ [] := by
          intro e
          rw [e] at ht
          simp [tw] at ht
        have e1 : (((1 + tw l : Nat) : Int) == 1) = false := beq_eq_false_iff_ne.2 (by omega)
        have hlen : 0 < l.length := by omega
        have e2 : 0 ≤ (1 : Int) ∧ (1 : Int) < ((45 :: l).length : Int) := by rw [List.length_cons]; omega
        have e3 : (45 :: l).getD (1 : Int).toNat 0 = l.getD 0 0 := rfl
        have e4 := u8_eq (l.getD 0 0) 48 (by omega)
        have e4' : (((l.getD 0 0).toNat : Int) == 48) = (l.getD 0 0 == 48) := e4
        have e5 : IntKind.i64.wrap ((1 : Int) + 1) = 2 := by decide
        simp only [e1, e2, e3, e4', e5, Bool.false_eq_true, if_false, if_true, and_self, show ¬ tw l = 0 by omega]
        by_cases h48 : l.getD 0 0 = 48
        · have e6 : (l.getD 0 0 == 48) = true := beq_iff_eq.2 h48
          by_cases h1 : 1 < tw l
          · have e7 : decide (((1 + tw l : Nat) : Int) > 2) = true := decide_eq_true (by omega)
            simp only [e6, e7, h48, h1, beq_self_eq_true, if_true, Out.andThen_norm, List.getD_cons_zero, List.getD_cons_succ, DC.bb_b, DC.ii_i, and_self]
            rfl
          · have e7 : decide (((1 + tw l : Nat) : Int) > 2) = false := decide_eq_false (by omega)
            simp only [e6, e7, h48, h1, beq_self_eq_true, if_true, Out.andThen_norm, List.getD_cons_zero, List.getD_cons_succ, DC.bb_b, DC.ii_i, Bool.false_eq_true, if_false, and_false]
        · have e6 : (l.getD 0 0 == 48) = false := beq_eq_false_iff_ne.2 h48
          simp only [e6, h48, if_true, Out.andThen_norm, List.getD_cons_zero, List.getD_cons_succ, DC.bb_b, DC.ii_i, Bool.false_eq_true, if_false, false_and]
    · have hsg : sgn (a :: l) = 0 := by simp [sgn, h]
      have hr : r_spec_l03Run [.s (a :: l), .i 0] = .ret [.i ((tw (a :: l) : Nat) : Int)] := by
        have := spec_l03Run (a :: l) 0 (by simp) hs
        simpa using this
      have h45 : ((a.toNat : Int) == 45) = false := (u8_eq a 45 (by omega)).trans (beq_eq_false_iff_ne.2 h)
      simp only [E_spec_l03Int, List.getD_cons_zero, List.getD_cons_succ, DC.bb_b, DC.ii_i, DC.ss_s, hpos, hpos', if_true, and_self, decide_true, h0, h45, Out.andThen_norm, hr, Out.bindR_ret, Bool.false_eq_true, if_false]
      have hil : intLen (a :: l) = if tw (a :: l) = 0 then 0 else if a = 48 ∧ 1 < tw (a :: l) then 0 else tw (a :: l) := by
        unfold intLen
        rw [hsg]
        simp only [List.drop_zero, Nat.zero_add]
        rfl
      rw [hil]
      generalize tw (a :: l) = n
      rcases Nat.eq_zero_or_pos n with ht | ht
      · simp [ht]
      · have e1 : ((n : Int) == 0) = false := beq_eq_false_iff_ne.2 (by omega)
        have e4' : ((a.toNat : Int) == 48) = (a == 48) := u8_eq a 48 (by omega)
        have e5 : IntKind.i64.wrap ((0 : Int) + 1) = 1 := by decide
        simp only [e1, e4', e5, Bool.false_eq_true, if_false, if_true, show ¬ n = 0 by omega]
        by_cases h48 : a = 48
        · have e6 : (a == 48) = true := beq_iff_eq.2 h48
          by_cases h1 : 1 < n
          · have e7 : decide ((n : Int) > 1) = true := decide_eq_true (by omega)
            simp only [e6, e7, h48, h1, beq_self_eq_true, if_true, Out.andThen_norm, List.getD_cons_zero, List.getD_cons_succ, DC.bb_b, DC.ii_i, and_self]
            rfl
          · have e7 : decide ((n : Int) > 1) = false := decide_eq_false (by omega)
            simp only [e6, e7, h48, h1, beq_self_eq_true, if_true, Out.andThen_norm, List.getD_cons_zero, List.getD_cons_succ, DC.bb_b, DC.ii_i, Bool.false_eq_true, if_false, and_false]
        · have e6 : (a == 48) = false := beq_eq_false_iff_ne.2 h48
          simp only [e6, h48, if_true, Out.andThen_norm, List.getD_cons_zero, List.getD_cons_succ, DC.bb_b, DC.ii_i, Bool.false_eq_true, if_false, false_and]
def intOk (s : List UInt8) : Bool := decide (s.length ≤ 40) && (decide (0 < s.length) && (intLen s == s.length))
theorem spec_IntOk (s : List UInt8) (hs : s.length ≤ 1048576) : r_spec_IntOk [.s s] = .ret [.b (intOk s)] := by
  rw [eq_spec_IntOk]
  simp only [E_spec_IntOk, List.getD_cons_zero, List.getD_cons_succ, DC.bb_b, DC.ii_i, DC.ss_s, spec_l03Int s hs, Out.bindR_ret, intOk]
  by_cases h1 : s.length ≤ 40
  · have e1 : decide ((s.length : Int) ≤ 40) = true := decide_eq_true (by omega)
    by_cases h2 : 0 < s.length
    · have e2 : decide ((s.length : Int) > 0) = true := decide_eq_true (by omega)
      have e3 : ((intLen s : Int) == (s.length : Int)) = (intLen s == s.length) := by
        rw [Bool.eq_iff_iff, beq_iff_eq, beq_iff_eq]; omega
      simp only [e1, e2, e3, h1, h2, decide_true, Bool.true_and, if_true, Out.andThen_norm, List.getD_cons_zero, DC.bb_b]
    · have e2 : decide ((s.length : Int) > 0) = false := decide_eq_false (by omega)
      simp only [e1, e2, h1, h2, decide_true, decide_false, Bool.true_and, Bool.false_and, if_true, if_false, Bool.false_eq_true, Out.andThen_norm, List.getD_cons_zero, DC.bb_b]
  · have e1 : decide ((s.length : Int) ≤ 40) = false := decide_eq_false (by omega)
    simp only [e1, h1, decide_false, Bool.false_and, if_false, Bool.false_eq_true, Out.andThen_norm, List.getD_cons_zero, DC.bb_b]
def figs (l : List UInt8) : Bool := !(l == []) && l.all isFig
theorem impl_figures (s : List UInt8) (hs : s.length ≤ 1048576) : r_impl_figures [.s s] = .ret [.b (figs s)] := by
  rw [eq_impl_figures]
  simp only [E_impl_figures, List.getD_cons_zero, List.getD_cons_succ, DC.bb_b, DC.ii_i, DC.ss_s]
  rw [show (0 : Int) = ((0 : Nat) : Int) from rfl, Loop_find0 (l := s) (st := fun i => [.s s, .i (s.length : Int), .i (i : Int)]) (p := fun x => !isFig x) (stop := fun i _ => .ret [.b false]) (fin := .ex 0 [.s s]) (fun i hi => ?step) (fun _ _ => Out.esc_ret _) ?fin (Out.esc_ex _ _), goF_any]
  · unfold figs
    cases h : s.any fun x => !isFig x with
    | true =>
      have : s.all isFig = false := by
        rw [List.any_eq_true] at h
        obtain ⟨x, hx, h⟩ := h
        rw [List.all_eq_false]
        exact ⟨x, hx, by simpa using h⟩
      simp [this]
    | false =>
      have : s.all isFig = true := by
        rw [List.any_eq_false] at h
        rw [List.all_eq_true]
        intro x hx
        simpa using h x hx
      simp [this]
  case step =>
    have hg : s.getD i 0 = s[i] := by rw [List.getD_eq_getElem?_getD, List.getElem?_eq_getElem hi]; rfl
    simp only [E_impl_figuresL1, List.getD_cons_zero, List.getD_cons_succ, DC.bb_b, DC.ii_i, DC.ss_s, Int.toNat_natCast, hg, impl_isFigure]
    cases hf : isFig s[i] <;> simp [hi, hf, wrap_succ hi (show s.length ≤ 9223372036854775807 by omega)]
  case fin => simp [E_impl_figuresL1]
theorem takeWhile_all {f : UInt8 → Bool} : ∀ {l : List UInt8}, (l.takeWhile f).length = l.length ↔ l.all f = true
  | [] => by simp
  | x :: l => by
    have ih := takeWhile_all (f := f) (l := l)
    rw [List.takeWhile_cons, List.all_cons]
    cases f x <;> simp [ih]
theorem strings_TrimPrefix_sgn (s : List UInt8) : r_strings_TrimPrefix [.s s, .s [45]] = .ret [.s (s.drop (sgn s))] := by
  rw [eq_strings_TrimPrefix]
  simp only [E_strings_TrimPrefix, List.getD_cons_zero, List.getD_cons_succ, DC.ss_s]
  rw [eq_internal_stringslite_TrimPrefix]
  simp only [E_internal_stringslite_TrimPrefix, List.getD_cons_zero, List.getD_cons_succ, DC.ss_s]
  have h : r_internal_stringslite_HasPrefix [.s s, .s [45]] = .ret [.b (decide (sgn s = 1))] := by
    rw [eq_internal_stringslite_HasPrefix]
    simp only [E_internal_stringslite_HasPrefix, List.getD_cons_zero, List.getD_cons_succ, DC.ss_s]
    cases s with
    | nil => simp [sgn]
    | cons a l =>
      by_cases h : a = 45
      · subst h
        have hl : (1 : Int) ≤ (l.length : Int) + 1 := by omega
        simp [sgn, hl]
      · have hl : (1 : Int) ≤ (l.length : Int) + 1 := by omega
        simp [sgn, h, hl]
  rw [h]
  unfold sgn
  cases s with
  | nil => simp
  | cons a l =>
    by_cases h : a = 45
    · subst h
      have hl : (1 : Int) ≤ (l.length : Int) + 1 := by omega
      simp [hl]
    · simp [h]
theorem intOk_eq (s : List UInt8) : intOk s = (decide (s.length ≤ 40) && (figs (s.drop (sgn s)) && (s.drop (sgn s) == [48] || !((s.drop (sgn s)).getD 0 0 == 48)))) := by
  unfold intOk
  congr 1
  have hle := sgn_le s
  have hlen : (s.drop (sgn s)).length = s.length - sgn s := List.length_drop
  have hg : s.getD (sgn s) 0 = (s.drop (sgn s)).getD 0 0 := by simp [List.getD_eq_getElem?_getD, List.getElem?_drop]
  have hall := takeWhile_all (f := isFig) (l := s.drop (sgn s))
  unfold intLen tw figs
  rw [hg]
  generalize s.drop (sgn s) = d at *
  have htl := (List.takeWhile_prefix isFig (l := d)).length_le
  generalize (d.takeWhile isFig).length = n at *
  rw [Bool.eq_iff_iff]
  simp only [Bool.and_eq_true, Bool.or_eq_true, decide_eq_true_eq, beq_iff_eq, Bool.not_eq_true', beq_eq_false_iff_ne, ne_eq]
  rw [← hall]
  cases d with
  | nil =>
    have : n = 0 := by simpa using htl
    subst this
    simp
    omega
  | cons a l =>
    simp only [List.length_cons] at hlen htl hall
    by_cases h0 : n = 0
    · simp [h0]; omega
    · by_cases h48 : a = 48
      · subst h48
        cases l with
        | nil =>
          have h1 : ¬ 1 < n := by simp at htl; omega
          simp only [List.length_cons, List.length_nil] at *
          simp [h0, h1]
          omega
        | cons b l =>
          simp only [List.length_cons] at *
          by_cases h1 : 1 < n
          · simp [h0, h1]
            omega
          · simp [h0, h1]
            omega
      · simp [h0, h48]; omega
theorem impl_IntOk (s : List UInt8) (hs : s.length ≤ 1048576) : r_impl_IntOk [.s s] = .ret [.b (intOk s)] := by
  rw [eq_impl_IntOk, intOk_eq]
  have hd : (s.drop (sgn s)).length ≤ 1048576 := by rw [List.length_drop]; omega
  simp only [E_impl_IntOk, List.getD_cons_zero, List.getD_cons_succ, DC.bb_b, DC.ii_i, DC.ss_s, strings_TrimPrefix_sgn, Out.bindR_ret, impl_figures _ hd]
  generalize s.drop (sgn s) = d
  by_cases h1 : s.length ≤ 40
  · have e1 : decide ((s.length : Int) ≤ 40) = true := decide_eq_true (by omega)
    cases hf : figs d with
    | false => simp [e1, h1, hf]
    | true =>
      cases d with
      | nil => simp [figs] at hf
      | cons a l =>
        have e3 : ((a.toNat : Int) != 48) = !(a == 48) := congrArg (!·) (u8_eq a 48 (by omega))
        have e4 : 0 ≤ (0 : Int) ∧ (0 : Int) < ((a :: l).length : Int) := by simp
        have e5 : (a :: l).getD (0 : Int).toNat 0 = a := rfl
        have e6 : (a :: l).getD 0 0 = a := rfl
        cases hb : ((a :: l) == [48]) <;> simp only [e1, h1, hf, e4, e5, e6, hb, e3, decide_true, if_true, if_false, Bool.false_eq_true, and_self, Out.andThen_norm, List.getD_cons_zero, DC.bb_b, Bool.true_and, Bool.true_or, Bool.false_or]
  · have e1 : decide ((s.length : Int) ≤ 40) = false := decide_eq_false (by omega)
    simp [e1, h1]
def num (acc : Nat) (l : List UInt8) : Nat := l.foldl (fun a c => a * 10 + (c.toNat - 48)) acc
theorem num_nil (acc : Nat) : num acc [] = acc := rfl
theorem num_cons (acc : Nat) (c : UInt8) (r : List UInt8) : num acc (c :: r) = num (acc * 10 + (c.toNat - 48)) r := by simp only [num, List.foldl_cons]
theorem num_ge : ∀ (l : List UInt8) (acc : Nat), acc ≤ num acc l
  | [], acc => Nat.le_refl _
  | c :: r, acc => by
    rw [num_cons]
    exact Nat.le_trans (by omega) (num_ge r (acc * 10 + (c.toNat - 48)))
theorem num_pow : ∀ (l : List UInt8) (acc : Nat), acc * 10 ^ l.length ≤ num acc l
  | [], acc => by simp [num_nil]
  | c :: r, acc => by
    rw [num_cons]
    refine Nat.le_trans ?_ (num_pow r (acc * 10 + (c.toNat - 48)))
    rw [List.length_cons, Nat.pow_succ, ← Nat.mul_assoc, Nat.mul_right_comm]
    exact Nat.mul_le_mul_right _ (by omega)
theorem pU {M : Nat} (hM : M < 1844674407370955162) : ∀ (l : List UInt8) (acc : Nat), l.all isFig = true → acc ≤ M →
    (∃ u, Lib.parseUintM M acc l = .ok u ∧ u = num acc l ∧ num acc l ≤ M) ∨ (Lib.parseUintM M acc l = .range ∧ M < num acc l)
  | [], acc, _, h => .inl ⟨acc, rfl, rfl, h⟩
  | c :: r, acc, hf, h => by
    simp only [List.all_cons, Bool.and_eq_true, isFig, decide_eq_true_eq] at hf
    rw [Lib.parseUintM, if_pos hf.1, if_neg (by omega), num_cons]
    by_cases hb : M < acc * 10 + (c.toNat - 48)
    · rw [if_pos hb]
      exact .inr ⟨rfl, Nat.lt_of_lt_of_le hb (num_ge r _)⟩
    · rw [if_neg hb]
      exact pU hM r _ hf.2 (by omega)
def fits32 (s : List UInt8) : Bool := intOk s && (if s.head? = some 45 then decide (num 0 (s.drop 1) ≤ 2147483648) else decide (num 0 s ≤ 2147483647))
theorem fits32_impl (s : List UInt8) : (intOk s && isOk (Lib.parseIntB 32 s)) = fits32 s := by
  unfold fits32
  cases hi : intOk s with
  | false => rfl
  | true =>
    rw [Bool.true_and, Bool.true_and]
    rw [intOk_eq] at hi
    simp only [Bool.and_eq_true, decide_eq_true_eq] at hi
    obtain ⟨_, hf, _⟩ := hi
    unfold figs at hf
    rw [Bool.and_eq_true] at hf
    obtain ⟨hne, hall⟩ := hf
    cases s with
    | nil => simp [sgn] at hne
    | cons c r =>
      have e : (2 : Nat) ^ 32 - 1 = 4294967295 := by decide
      have e2 : (2 : Nat) ^ (32 - 1) = 2147483648 := by decide
      by_cases hc : c = 45
      · subst hc
        have hs : sgn (45 :: r) = 1 := by simp [sgn]
        rw [hs] at hne hall
        simp only [List.drop_succ_cons, List.drop_zero] at hne hall
        have hr : r ≠ [] := by rintro rfl; simp at hne
        have hne43 : (45 : UInt8).toNat = 43 ∨ (45 : UInt8).toNat = 45 := .inr rfl
        rw [if_pos (by rfl)]
        unfold Lib.parseIntB Lib.parseUintB
        simp only [if_pos hne43, if_neg hr, e, List.drop_succ_cons, List.drop_zero]
        rcases pU (M := 4294967295) (by omega) r 0 hall (by omega) with ⟨u, h1, rfl, h2⟩ | ⟨h1, h2⟩
        · rw [h1]
          dsimp only
          have hneg : (45 : UInt8).toNat = 45 := rfl
          simp only [hneg, not_true_eq_false, false_and, if_false, true_and, e2]
          by_cases hb : 2147483648 < num 0 r
          · rw [if_pos hb]
            simp [isOk]
            omega
          · rw [if_neg hb]
            simp [isOk]
            omega
        · rw [h1]
          simp [isOk]
          omega
      · have hs : sgn (c :: r) = 0 := by simp [sgn, hc]
        rw [hs, List.drop_zero] at hne hall
        have hc45 : ¬ c.toNat = 45 := fun h => hc (UInt8.toNat_inj.1 h)
        have hfc : isFig c = true := by simp only [List.all_cons, Bool.and_eq_true] at hall; exact hall.1
        have hc43 : ¬ (c.toNat = 43 ∨ c.toNat = 45) := by
          simp only [isFig, Bool.and_eq_true, decide_eq_true_eq] at hfc
          omega
        rw [if_neg (by simp [hc])]
        unfold Lib.parseIntB Lib.parseUintB
        simp only [if_neg hc43, e]
        rw [if_neg (by simp)]
        rcases pU (M := 4294967295) (by omega) (c :: r) 0 hall (by omega) with ⟨u, h1, rfl, h2⟩ | ⟨h1, h2⟩
        · rw [h1]
          dsimp only
          simp only [hc45, not_false_eq_true, true_and, e2, false_and, if_false]
          by_cases hb : 2147483648 ≤ num 0 (c :: r)
          · rw [if_pos hb]
            simp [isOk]
            omega
          · rw [if_neg hb]
            simp [isOk]
            omega
        · rw [h1]
          simp [isOk]
          omega
theorem fits32_long {s : List UInt8} (h : 11 < s.length) : fits32 s = false := by
  unfold fits32
  cases hi : intOk s with
  | false => rfl
  | true =>
    rw [Bool.true_and]
    rw [intOk_eq] at hi
    simp only [Bool.and_eq_true, decide_eq_true_eq, Bool.or_eq_true] at hi
    obtain ⟨_, hf, hz⟩ := hi
    have key : ∀ l : List UInt8, 10 < l.length → (l == [48] ∨ (!(l.getD 0 0 == 48)) = true) → l.all isFig = true → 10000000000 ≤ num 0 l := by
      intro l hl hz hall
      cases l with
      | nil => simp at hl
      | cons c r =>
        have hr : 10 ≤ r.length := by simp at hl; omega
        have hc : c ≠ 48 := by
          rcases hz with hz | hz
          · have := eq_of_beq hz
            simp at this
            rw [this.2] at hr
            simp at hr
          · simpa using hz
        simp only [List.all_cons, Bool.and_eq_true, isFig, decide_eq_true_eq] at hall
        have hc' : 49 ≤ c.toNat := by
          have : c.toNat ≠ 48 := fun h => hc (UInt8.toNat_inj.1 h)
          omega
        rw [num_cons]
        refine Nat.le_trans ?_ (num_pow r (0 * 10 + (c.toNat - 48)))
        have h10 : 10 ^ 10 ≤ 10 ^ r.length := Nat.pow_le_pow_right (by omega) hr
        calc 10000000000 = 1 * 10 ^ 10 := by decide
          _ ≤ (0 * 10 + (c.toNat - 48)) * 10 ^ r.length := Nat.mul_le_mul (by omega) h10
    unfold figs at hf
    rw [Bool.and_eq_true] at hf
    by_cases hh : s.head? = some 45
    · rw [if_pos hh]
      have hs : sgn s = 1 := by simp [sgn, hh]
      rw [hs] at hf hz
      have := key (s.drop 1) (by simp; omega) hz hf.2
      exact decide_eq_false (by omega)
    · rw [if_neg hh]
      have hs : sgn s = 0 := by simp [sgn, hh]
      rw [hs, List.drop_zero] at hf hz
      have := key s (by omega) hz hf.2
      exact decide_eq_false (by omega)
theorem wsum_Value (v : TValue) : wtL (TValue.enc v) = v.text.length + DC.wt (.sl (v.items.map TValue.enc)) + DC.wt (.sl (v.names.map S1)) := by
  simp only [TValue.enc_eq, wtL, DC.wt]
  try omega
theorem wsum_Type (v : TType) : wtL (TType.enc v) = v.name.length + v.wraps.length := by
  simp only [TType.enc_eq, wtL, DC.wt]
  try omega
theorem wsum_InDef (v : TInDef) : wtL (TInDef.enc v) = v.name.length + v.desc.length + wtL (TType.enc v.type') + wtL (TValue.enc v.default') + DC.wt (.sl (v.dirs.map TDir.enc)) := by
  simp only [TInDef.enc_eq, wtL, DC.wt, TType.enc_eq, TValue.enc_eq]
  try omega
def placeOf {α : Type} (p : α → Bool) (l : List α) : Int := match l.findIdx? p with | some i => (i : Int) | none => -1
theorem goF_place {α : Type} {p : α → Bool} {g : Int → List DC} {fin : Out} : ∀ (l : List α) (i : Nat), goF p (fun i _ => .ret (g (i : Int))) fin i l = match l.findIdx? p with | some j => .ret (g ((i + j : Nat) : Int)) | none => fin
  | [], i => rfl
  | x :: l, i => by
    rw [goF, goF_place l (i + 1), List.findIdx?_cons]
    cases p x with
    | true => simp
    | false =>
      simp only [Bool.false_eq_true, if_false]
      cases l.findIdx? p with
      | none => rfl
      | some j => simp only [Option.map_some]; congr 3; omega
def typeAt (l : List TDef) (n : List UInt8) : Int := if 60 < l.length then -1 else placeOf (fun d => d.name == n) l
theorem spec_TypeAt (l : List TDef) (d r : List (List DC)) (n : List UInt8) (hl : l.length ≤ 1048576) : r_spec_TypeAt [.sl (l.map TDef.enc), .sl d, .sl r, .s n] = .ret [.i (typeAt l n)] := by
  rw [eq_spec_TypeAt]
  simp only [E_spec_TypeAt, List.getD_cons_zero, List.getD_cons_succ, DC.bb_b, DC.ii_i, DC.ss_s, DC.ll_sl]
  rw [typeAt]
  by_cases h60 : 60 < l.length
  · rw [Loop_ex (r := []) (id := 0) (by
      have h0 : (0 : Int) < (l.length : Int) := by omega
      have h1 : ¬ (l.length : Int) ≤ 60 := by omega
      simp [E_spec_TypeAtL1, h0, h1])]
    simp [h60]
  · rw [if_neg h60, show (0 : Int) = ((0 : Nat) : Int) from rfl, Loop_find0 (l := l) (st := fun i => [.s n, .i (i : Int), .sl (l.map TDef.enc), .sl d, .sl r]) (p := fun d => d.name == n) (stop := fun i _ => .ret [.i (i : Int)]) (fin := .ex 0 []) (fun i hi => ?step) (fun _ _ => Out.esc_ret _) ?fin (Out.esc_ex _ _), goF_place (g := fun i => [.i i]), placeOf]
    · cases l.findIdx? fun d => d.name == n <;> simp
    case step =>
      have h1 : (l.length : Int) ≤ 60 := by omega
      simp only [E_spec_TypeAtL1, List.getD_cons_zero, List.getD_cons_succ, DC.bb_b, DC.ii_i, DC.ss_s, DC.ll_sl, Int.toNat_natCast, List.length_map, map_getD hi, TDef.enc_eq]
      by_cases hp : l[i].name = n <;> simp [hi, hp, h1, wrap_succ hi (show l.length ≤ 9223372036854775807 by omega), map_getD hi, TDef.enc_eq]
    case fin => simp [E_spec_TypeAtL1]
theorem index_named (l : List TDef) (n : List UInt8) (hl : l.length ≤ 1048576) : r_slices_IndexFunc_impl_Def__impl_named_1 [.sl (l.map TDef.enc), .s n] = .ret [.i (placeOf (fun d => d.name == n) l), .s n] := by
  rw [eq_slices_IndexFunc_impl_Def__impl_named_1]
  simp only [E_slices_IndexFunc_impl_Def__impl_named_1, List.getD_cons_zero, List.getD_cons_succ, DC.bb_b, DC.ii_i, DC.ss_s, DC.ll_sl, List.length_map]
  rw [show (0 : Int) = ((0 : Nat) : Int) from rfl, Loop_find0 (l := l) (st := fun i => [.sl (l.map TDef.enc), .i (l.length : Int), .i (i : Int), .s n]) (p := fun d => d.name == n) (stop := fun i _ => .ret [.i (i : Int), .s n]) (fin := .ex 0 [.s n]) (fun i hi => ?step) (fun _ _ => Out.esc_ret _) ?fin (Out.esc_ex _ _), goF_place (g := fun i => [.i i, .s n]), placeOf]
  · cases l.findIdx? fun d => d.name == n <;> simp
  case step =>
    simp only [E_slices_IndexFunc_impl_Def__impl_named_1L1, List.getD_cons_zero, List.getD_cons_succ, DC.bb_b, DC.ii_i, DC.ss_s, DC.ll_sl, Int.toNat_natCast, List.length_map, map_getD hi, TDef.enc_eq, eq_impl_named_1, E_impl_named_1, Out.bindR_ret]
    by_cases hp : l[i].name = n <;> simp [hi, hp, wrap_succ hi (show l.length ≤ 9223372036854775807 by omega)]
  case fin => simp [E_slices_IndexFunc_impl_Def__impl_named_1L1]
theorem impl_named (l : List TDef) (n : List UInt8) (hl : l.length ≤ 1048576) : r_impl_named [.sl (l.map TDef.enc), .s n] = .ret [.i (typeAt l n)] := by
  rw [eq_impl_named]
  simp only [E_impl_named, List.getD_cons_zero, List.getD_cons_succ, DC.bb_b, DC.ii_i, DC.ss_s, DC.ll_sl, List.length_map, typeAt]
  by_cases h60 : 60 < l.length
  · have h1 : (l.length : Int) > 60 := by omega
    simp [h60, h1]
  · have h1 : ¬ (l.length : Int) > 60 := by omega
    simp only [h60, h1, decide_false, Bool.false_eq_true, if_false, index_named l n hl, Out.bindR_ret, List.getD_cons_zero, DC.ii_i]
theorem impl_TypeAt (l : List TDef) (d r : List (List DC)) (n : List UInt8) (hl : l.length ≤ 1048576) : r_impl_TypeAt [.sl (l.map TDef.enc), .sl d, .sl r, .s n] = .ret [.i (typeAt l n)] := by
  rw [eq_impl_TypeAt]
  simp only [E_impl_TypeAt, List.getD_cons_zero, List.getD_cons_succ, DC.bb_b, DC.ii_i, DC.ss_s, DC.ll_sl, impl_named l n hl, Out.bindR_ret]
def defOf (l : List TDef) (n : List UInt8) : Option TDef := if 60 < l.length then none else l.find? (fun d => d.name == n)
theorem place_find {α : Type} (p : α → Bool) : ∀ (l : List α), (placeOf p l = -1 ∧ l.find? p = none) ∨ ∃ (i : Nat) (h : i < l.length), placeOf p l = (i : Int) ∧ l.find? p = some l[i] ∧ p l[i] = true := by
  intro l
  induction l with
  | nil => exact .inl ⟨rfl, rfl⟩
  | cons x l ih =>
    simp only [placeOf, List.findIdx?_cons, List.find?_cons] at ih ⊢
    cases hp : p x with
    | true => exact .inr ⟨0, by simp, by simp, by simp [hp]⟩
    | false =>
      simp only [Bool.false_eq_true, if_false]
      rcases ih with ⟨h1, h2⟩ | ⟨i, h, h1, h2, h3⟩
      · left
        refine ⟨?_, h2⟩
        cases hf : l.findIdx? p with
        | none => rfl
        | some j => rw [hf] at h1; simp at h1
      · right
        refine ⟨i + 1, by simp; omega, ?_, by simpa using h2, by simpa using h3⟩
        cases hf : l.findIdx? p with
        | none => rw [hf] at h1; simp at h1
        | some j => rw [hf] at h1; simp only [Option.map_some] at h1 ⊢; omega
theorem typeAt_cases (l : List TDef) (n : List UInt8) : (typeAt l n = -1 ∧ defOf l n = none) ∨ ∃ (i : Nat) (h : i < l.length), typeAt l n = (i : Int) ∧ defOf l n = some l[i] ∧ l.length ≤ 60 := by
  unfold typeAt defOf
  by_cases h60 : 60 < l.length
  · left; simp [h60]
  · simp only [h60, if_false]
    rcases place_find (fun d : TDef => d.name == n) l with h | ⟨i, h, h1, h2, h3⟩
    · exact .inl h
    · exact .inr ⟨i, h, h1, h2, by omega⟩
def zDef : TDef := ⟨0, false, [], [], [], [], [], [], [], false, []⟩
theorem zDef_enc : zDef.enc = [.i 0, .b false, .s [], .s [], .sl [], .sl [], .sl [], .sl [], .sl [], .b false, .sl []] := rfl
theorem impl_typeDef (l : List TDef) (d r : List (List DC)) (n : List UInt8) (hl : l.length ≤ 1048576) : r_impl_typeDef [.sl (l.map TDef.enc), .sl d, .sl r, .s n] = .ret (((defOf l n).getD zDef).enc ++ [.b (defOf l n).isSome]) := by
  rw [eq_impl_typeDef]
  simp only [E_impl_typeDef, List.getD_cons_zero, List.getD_cons_succ, DC.bb_b, DC.ii_i, DC.ss_s, DC.ll_sl, impl_TypeAt l d r n hl, Out.bindR_ret]
  rcases typeAt_cases l n with ⟨h1, h2⟩ | ⟨i, h, h1, h2, _⟩
  · rw [h1, h2]
    rfl
  · rw [h1, h2]
    have hn : ¬ (i : Int) < 0 := by omega
    simp only [hn, decide_false, Bool.false_eq_true, if_false, Int.toNat_natCast, map_getD h, List.length_map, TDef.enc_eq, Option.getD_some, Option.isSome_some, List.getD_cons_zero, List.getD_cons_succ, DC.bb_b, DC.ii_i, DC.ss_s, DC.ll_sl]
    simp [h]
def builtIn (n : List UInt8) : Bool := n == [73, 110, 116] || n == [70, 108, 111, 97, 116] || n == [83, 116, 114, 105, 110, 103] || n == [66, 111, 111, 108, 101, 97, 110] || n == [73, 68]
theorem spec_BuiltIn (n : List UInt8) : r_spec_BuiltIn [.s n] = .ret [.b (builtIn n)] := by
  rw [eq_spec_BuiltIn]
  simp only [E_spec_BuiltIn, List.getD_cons_zero, DC.ss_s, builtIn]
  generalize (n == [73, 110, 116]) = a
  generalize (n == [70, 108, 111, 97, 116]) = b
  generalize (n == [83, 116, 114, 105, 110, 103]) = c
  generalize (n == [66, 111, 111, 108, 101, 97, 110]) = e
  generalize (n == [73, 68]) = f
  cases a <;> cases b <;> cases c <;> cases e <;> simp
theorem impl_BuiltIn (n : List UInt8) : r_impl_BuiltIn [.s n] = .ret [.b (builtIn n)] := by
  rw [eq_impl_BuiltIn]
  simp only [E_impl_BuiltIn, List.getD_cons_zero, DC.ss_s, builtIn]
  generalize (n == [73, 110, 116]) = a
  generalize (n == [70, 108, 111, 97, 116]) = b
  generalize (n == [83, 116, 114, 105, 110, 103]) = c
  generalize (n == [66, 111, 111, 108, 101, 97, 110]) = e
  generalize (n == [73, 68]) = f
  cases a <;> cases b <;> cases c <;> cases e <;> cases f <;> simp
theorem spec_l18Has (l : List (List UInt8)) (n : List UInt8) (hl : l.length ≤ 1048576) : r_spec_l18Has [.sl (l.map S1), .s n] = .ret [.b (l.any (· == n))] := by
  rw [eq_spec_l18Has]
  simp only [E_spec_l18Has, List.getD_cons_zero, List.getD_cons_succ, DC.bb_b, DC.ii_i, DC.ss_s, DC.ll_sl]
  rw [show (0 : Int) = ((0 : Nat) : Int) from rfl, Loop_find0 (l := l) (st := fun i => [.sl (l.map S1), .s n, .i (i : Int)]) (p := fun d => d == n) (stop := fun i _ => .ret [.b true]) (fin := .ex 0 []) (fun i hi => ?step) (fun _ _ => Out.esc_ret _) ?fin (Out.esc_ex _ _), goF_any]
  · cases l.any fun d => d == n <;> simp
  case step =>
    simp only [E_spec_l18HasL1, List.getD_cons_zero, List.getD_cons_succ, DC.bb_b, DC.ii_i, DC.ss_s, DC.ll_sl, Int.toNat_natCast, List.length_map, map_getD hi, S1]
    by_cases hp : l[i] = n <;> simp [hi, hp, wrap_succ hi (show l.length ≤ 9223372036854775807 by omega)]
  case fin => simp [E_spec_l18HasL1]
theorem slices_Index_string (l : List (List UInt8)) (n : List UInt8) (hl : l.length ≤ 1048576) : r_slices_Index_string [.sl (l.map S1), .s n] = .ret [.i (placeOf (· == n) l)] := by
  rw [eq_slices_Index_string]
  simp only [E_slices_Index_string, List.getD_cons_zero, List.getD_cons_succ, DC.bb_b, DC.ii_i, DC.ss_s, DC.ll_sl, List.length_map]
  rw [show (0 : Int) = ((0 : Nat) : Int) from rfl, Loop_find0 (l := l) (st := fun i => [.sl (l.map S1), .s n, .i (l.length : Int), .i (i : Int)]) (p := fun d => d == n) (stop := fun i _ => .ret [.i (i : Int)]) (fin := .ex 0 []) (fun i hi => ?step) (fun _ _ => Out.esc_ret _) ?fin (Out.esc_ex _ _), goF_place (g := fun i => [.i i]), placeOf]
  · cases l.findIdx? fun d => d == n <;> simp
  case step =>
    simp only [E_slices_Index_stringL1, List.getD_cons_zero, List.getD_cons_succ, DC.bb_b, DC.ii_i, DC.ss_s, DC.ll_sl, Int.toNat_natCast, List.length_map, map_getD hi, S1]
    by_cases hp : n = l[i]
    · simp [hi, ← hp, wrap_succ hi (show l.length ≤ 9223372036854775807 by omega)]
    · have hp2 : ¬ l[i] = n := fun h => hp h.symm
      simp [hi, hp, hp2, wrap_succ hi (show l.length ≤ 9223372036854775807 by omega)]
  case fin => simp [E_slices_Index_stringL1]
theorem placeOf_nonneg {α : Type} (p : α → Bool) (l : List α) : decide (placeOf p l ≥ 0) = l.any p := by
  rcases place_find p l with ⟨h1, h2⟩ | ⟨i, h, h1, h2, h3⟩
  · rw [h1, List.any_eq_false.2 (fun x hx => by simpa using List.find?_eq_none.1 h2 x hx)]
    rfl
  · rw [h1, List.any_eq_true.2 ⟨l[i], List.getElem_mem h, h3⟩]
    simp
theorem slices_Contains_string (l : List (List UInt8)) (n : List UInt8) (hl : l.length ≤ 1048576) : r_slices_Contains_string [.sl (l.map S1), .s n] = .ret [.b (l.any (· == n))] := by
  rw [eq_slices_Contains_string]
  simp only [E_slices_Contains_string, List.getD_cons_zero, List.getD_cons_succ, DC.bb_b, DC.ii_i, DC.ss_s, DC.ll_sl, slices_Index_string l n hl, Out.bindR_ret]
  rw [placeOf_nonneg]
theorem def_wt {l : List TDef} (hw : DC.wt (.sl (l.map TDef.enc)) ≤ 1048576) {d : TDef} (hd : d ∈ l) : wtL d.enc ≤ 1048576 := by
  rw [DC.wt] at hw
  have := wtV_mem (List.mem_map_of_mem (f := TDef.enc) hd)
  omega
theorem defs_len {l : List TDef} (hw : DC.wt (.sl (l.map TDef.enc)) ≤ 1048576) : l.length ≤ 1048576 := by
  rw [DC.wt, List.length_map] at hw
  omega
def below (l : List TDef) (a b : List UInt8) : Bool :=
  a == b || match defOf l a, defOf l b with
    | some x, some y => (y.kind == 3 && (x.kind == 2 || x.kind == 3) && x.faces.any (· == b)) || (y.kind == 4 && x.kind == 2 && y.faces.any (· == a))
    | _, _ => false
theorem u8i (x : UInt8) (c : UInt8) : ((x.toNat : Int) == (c.toNat : Int)) = (x == c) := by
  rw [Bool.eq_iff_iff]
  simp only [beq_iff_eq]
  constructor
  · intro h
    exact UInt8.toNat_inj.1 (by omega)
  · intro h; rw [h]
theorem spec_InAt (l : List TInDef) (n : List UInt8) (hl : l.length ≤ 1048576) : r_spec_InAt [.sl (l.map TInDef.enc), .s n] = .ret [.i (placeOf (fun d => d.name == n) l)] := by
  rw [eq_spec_InAt]
  simp only [E_spec_InAt, List.getD_cons_zero, List.getD_cons_succ, DC.bb_b, DC.ii_i, DC.ss_s, DC.ll_sl]
  rw [show (0 : Int) = ((0 : Nat) : Int) from rfl, Loop_find0 (l := l) (st := fun i => [.sl (l.map TInDef.enc), .s n, .i (i : Int)]) (p := fun d => d.name == n) (stop := fun i _ => .ret [.i (i : Int)]) (fin := .ex 0 []) (fun i hi => ?step) (fun _ _ => Out.esc_ret _) ?fin (Out.esc_ex _ _), goF_place (g := fun i => [.i i]), placeOf]
  · cases l.findIdx? fun d => d.name == n <;> simp
  case step =>
    simp only [E_spec_InAtL1, List.getD_cons_zero, List.getD_cons_succ, DC.bb_b, DC.ii_i, DC.ss_s, DC.ll_sl, Int.toNat_natCast, List.length_map, map_getD hi, TInDef.enc_eq]
    by_cases hp : l[i].name = n <;> simp [hi, hp, wrap_succ hi (show l.length ≤ 9223372036854775807 by omega)]
  case fin => simp [E_spec_InAtL1]
theorem index_InAt (l : List TInDef) (n : List UInt8) (hl : l.length ≤ 1048576) : r_slices_IndexFunc_impl_InDef__impl_InAt_1 [.sl (l.map TInDef.enc), .s n] = .ret [.i (placeOf (fun d => d.name == n) l), .s n] := by
  rw [eq_slices_IndexFunc_impl_InDef__impl_InAt_1]
  simp only [E_slices_IndexFunc_impl_InDef__impl_InAt_1, List.getD_cons_zero, List.getD_cons_succ, DC.bb_b, DC.ii_i, DC.ss_s, DC.ll_sl, List.length_map]
  rw [show (0 : Int) = ((0 : Nat) : Int) from rfl, Loop_find0 (l := l) (st := fun i => [.sl (l.map TInDef.enc), .i (l.length : Int), .i (i : Int), .s n]) (p := fun d => d.name == n) (stop := fun i _ => .ret [.i (i : Int), .s n]) (fin := .ex 0 [.s n]) (fun i hi => ?step) (fun _ _ => Out.esc_ret _) ?fin (Out.esc_ex _ _), goF_place (g := fun i => [.i i, .s n]), placeOf]
  · cases l.findIdx? fun d => d.name == n <;> simp
  case step =>
    simp only [E_slices_IndexFunc_impl_InDef__impl_InAt_1L1, List.getD_cons_zero, List.getD_cons_succ, DC.bb_b, DC.ii_i, DC.ss_s, DC.ll_sl, Int.toNat_natCast, List.length_map, map_getD hi, TInDef.enc_eq, eq_impl_InAt_1, E_impl_InAt_1, Out.bindR_ret]
    by_cases hp : l[i].name = n <;> simp [hi, hp, wrap_succ hi (show l.length ≤ 9223372036854775807 by omega)]
  case fin => simp [E_slices_IndexFunc_impl_InDef__impl_InAt_1L1]
theorem impl_InAt (l : List TInDef) (n : List UInt8) (hl : l.length ≤ 1048576) : r_impl_InAt [.sl (l.map TInDef.enc), .s n] = .ret [.i (placeOf (fun d => d.name == n) l)] := by
  rw [eq_impl_InAt]
  simp only [E_impl_InAt, List.getD_cons_zero, List.getD_cons_succ, DC.bb_b, DC.ii_i, DC.ss_s, DC.ll_sl, index_InAt l n hl, Out.bindR_ret]
def need (w : List UInt8) : Bool := decide (0 < w.length) && ((w.getD (w.length - 1) 0).toNat : Int) == 33
theorem spec_Needed (n w : List UInt8) (hw : w.length ≤ 1048576) : r_spec_Needed [.s n, .s w] = .ret [.b (need w)] := by
  rw [eq_spec_Needed]
  simp only [E_spec_Needed, List.getD_cons_zero, List.getD_cons_succ, DC.ss_s]
  by_cases h : 0 < w.length
  · have h1 : IntKind.i64.wrap ((w.length : Int) - 1) = ((w.length - 1 : Nat) : Int) := by
      rw [wrap64 (by omega) (by omega)]
      omega
    have h2 : w.length - 1 < w.length := by omega
    simp [h1, h, h2, need, Out.andThen, DC.bb_b]
  · simp [h, need, Out.andThen, DC.bb_b]
theorem bang_eq (x : UInt8) : (x == 33) = ((x.toNat : Int) == 33) := by
  rw [Bool.eq_iff_iff, beq_iff_eq, beq_iff_eq, ← UInt8.toNat_inj]
  have : (33 : UInt8).toNat = 33 := rfl
  rw [this]
  omega
theorem impl_Needed (n w : List UInt8) (hw : w.length ≤ 1048576) : r_impl_Needed [.s n, .s w] = .ret [.b (need w)] := by
  rw [eq_impl_Needed]
  simp only [E_impl_Needed, eq_strings_HasSuffix, E_strings_HasSuffix, eq_internal_stringslite_HasSuffix, E_internal_stringslite_HasSuffix, List.getD_cons_zero, List.getD_cons_succ, DC.ss_s, List.length_cons, List.length_nil]
  by_cases h : 0 < w.length
  · have h1 : IntKind.i64.wrap ((w.length : Int) - ((0 + 1 : Nat) : Int)) = ((w.length - 1 : Nat) : Int) := by
      rw [wrap64 (by omega) (by omega)]
      omega
    have h2 : w.length - 1 < w.length := by omega
    have h5 : w.drop (w.length - 1) = [w[w.length - 1]] := by
      rw [List.drop_eq_getElem_cons h2, show w.length - 1 + 1 = w.length by omega, List.drop_length]
    have h6 : w.getD (w.length - 1) 0 = w[w.length - 1] := by rw [List.getD_eq_getElem?_getD, List.getElem?_eq_getElem h2]; rfl
    rw [if_pos (by simp; omega), h1, if_pos ⟨by omega, by omega⟩]
    simp only [Int.toNat_natCast, h5, need, h6, Out.andThen, Out.bindR_ret, List.getD_cons_zero, DC.bb_b]
    rw [← bang_eq]
    simp [h]
  · have h3 : w.length = 0 := by omega
    have h4 : w = [] := List.eq_nil_of_length_eq_zero h3
    subst h4
    simp [need, Out.andThen, DC.bb_b]
def req1 (d : TInDef) : List (List UInt8) := if (need d.type'.wraps && !d.has') = true then [d.name] else []
def reqs (l : List TInDef) : List (List UInt8) := l.flatMap req1
theorem reqs_len : ∀ l : List TInDef, (reqs l).length ≤ l.length
  | [] => Nat.le_refl _
  | d :: l => by
    have := reqs_len l
    simp only [reqs, List.flatMap_cons, List.length_append, List.length_cons] at this ⊢
    have h1 : (req1 d).length ≤ 1 := by unfold req1; split <;> simp
    omega
theorem reqs_take {l : List TInDef} {j : Nat} (h : j < l.length) : reqs (l.take (j + 1)) = reqs (l.take j) ++ req1 l[j] := by
  rw [List.take_succ_eq_append_getElem h, reqs, List.flatMap_append]
  simp [reqs]
theorem wraps_len {l : List TInDef} (hw : DC.wt (.sl (l.map TInDef.enc)) ≤ 1048576) {j : Nat} (h : j < l.length) : l[j].type'.wraps.length ≤ 1048576 := by
  have h1 := wtV_mem (List.mem_map_of_mem (f := TInDef.enc) (List.getElem_mem h))
  rw [DC.wt] at hw
  have h2 : wtL (TInDef.enc l[j]) ≤ 1048576 := by omega
  rw [wsum_InDef, wsum_Type] at h2
  omega
theorem spec_RequiredIn (l : List TInDef) (hw : DC.wt (.sl (l.map TInDef.enc)) ≤ 1048576) : r_spec_RequiredIn [.sl (l.map TInDef.enc)] = .ret [.sl ((reqs l).map S1)] := by
  have hl : l.length ≤ 1048576 := by rw [DC.wt, List.length_map] at hw; omega
  rw [eq_spec_RequiredIn]
  simp only [E_spec_RequiredIn, List.getD_cons_zero, DC.ll_sl]
  have key := Loop_upto (F := E_spec_RequiredInL1) (st := fun i => [.sl (l.map TInDef.enc), .sl ((reqs (l.take i)).map S1), .i (i : Int)]) (o := .ex 0 [.sl ((reqs l).map S1)]) l.length 0 (fun j _ hj => ?step) ?fin
  · have key' : Loop E_spec_RequiredInL1 [.sl (l.map TInDef.enc), .sl [], .i (0 : Int)] = .ex 0 [.sl ((reqs l).map S1)] := key
    rw [key']
    simp [Out.andThenB, DC.ll_sl]
  case step =>
    have hi : j < l.length := by omega
    have hc1 : (j : Int) < (l.length : Int) := by omega
    have hn := spec_Needed l[j].type'.name l[j].type'.wraps (wraps_len hw hi)
    have hrl := reqs_len (l.take j)
    rw [List.length_take] at hrl
    have hL : (reqs (l.take j)).length + 1 < LIM := by unfold LIM; omega
    rw [reqs_take hi]
    simp only [E_spec_RequiredInL1, List.getD_cons_zero, List.getD_cons_succ, DC.bb_b, DC.ii_i, DC.ss_s, DC.ll_sl, Int.toNat_natCast, List.length_map, map_getD hi, TInDef.enc_eq, hn, Out.bindR_ret]
    cases h1 : need l[j].type'.wraps <;> cases h2 : l[j].has' <;> simp [hi, hc1, hL, h1, h2, req1, Out.andThen, Out.andThenB, DC.bb_b, DC.ii_i, DC.ll_sl, map_getD hi, TInDef.enc_eq, DC.ss_s, wrap_succ hi (show l.length ≤ 9223372036854775807 by omega), S1]
  case fin =>
    refine Loop_ex ?_
    rw [Nat.zero_add, List.take_length]
    simp [E_spec_RequiredInL1, DC.ii_i, DC.ll_sl]
theorem impl_RequiredIn (l : List TInDef) (hw : DC.wt (.sl (l.map TInDef.enc)) ≤ 1048576) : r_impl_RequiredIn [.sl (l.map TInDef.enc)] = .ret [.sl ((reqs l).map S1)] := by
  have hl : l.length ≤ 1048576 := by rw [DC.wt, List.length_map] at hw; omega
  rw [eq_impl_RequiredIn]
  simp only [E_impl_RequiredIn, List.getD_cons_zero, DC.ll_sl]
  have key := Loop_upto (F := E_impl_RequiredInL1) (st := fun i => [.sl ((reqs (l.take i)).map S1), .sl (l.map TInDef.enc), .i ((l.map TInDef.enc).length : Int), .i (i : Int)]) (o := .ex 0 [.sl ((reqs l).map S1)]) l.length 0 (fun j _ hj => ?step) ?fin
  · have key' : Loop E_impl_RequiredInL1 [.sl [], .sl (l.map TInDef.enc), .i ((l.map TInDef.enc).length : Int), .i (0 : Int)] = .ex 0 [.sl ((reqs l).map S1)] := key
    rw [key']
    simp [Out.andThenB, DC.ll_sl]
  case step =>
    have hi : j < l.length := by omega
    have hc1 : (j : Int) < (l.length : Int) := by omega
    have hn := impl_Needed l[j].type'.name l[j].type'.wraps (wraps_len hw hi)
    have hrl := reqs_len (l.take j)
    rw [List.length_take] at hrl
    have hL : (reqs (l.take j)).length + 1 < LIM := by unfold LIM; omega
    rw [reqs_take hi]
    simp only [E_impl_RequiredInL1, List.getD_cons_zero, List.getD_cons_succ, DC.bb_b, DC.ii_i, DC.ss_s, DC.ll_sl, Int.toNat_natCast, List.length_map, map_getD hi, TInDef.enc_eq, hn, Out.bindR_ret]
    cases h1 : need l[j].type'.wraps <;> cases h2 : l[j].has' <;> simp [hi, hc1, hL, h1, h2, req1, Out.andThen, Out.andThenB, DC.bb_b, DC.ii_i, DC.ll_sl, map_getD hi, TInDef.enc_eq, DC.ss_s, wrap_succ hi (show l.length ≤ 9223372036854775807 by omega), S1]
  case fin =>
    refine Loop_ex ?_
    rw [Nat.zero_add, List.take_length]
    simp [E_impl_RequiredInL1, DC.ii_i, DC.ll_sl]
def lst (w : List UInt8) (c : UInt8) : Bool := decide (0 < w.length) && w.getD (w.length - 1) 0 == c
theorem lst_need (w : List UInt8) : need w = lst w 33 := by
  unfold need lst
  rw [bang_eq]
theorem wrap_last {w : List UInt8} (h : 0 < w.length) (hw : w.length ≤ 1048576) : IntKind.i64.wrap ((w.length : Int) - 1) = ((w.length - 1 : Nat) : Int) := by
  rw [wrap64 (by omega) (by omega)]
  omega
theorem hs_one (w : List UInt8) (c : UInt8) (hw : w.length ≤ 1048576) : r_internal_stringslite_HasSuffix [.s w, .s [c]] = .ret [.b (lst w c)] := by
  rw [eq_internal_stringslite_HasSuffix]
  simp only [E_internal_stringslite_HasSuffix, List.getD_cons_zero, List.getD_cons_succ, DC.ss_s, List.length_cons, List.length_nil]
  by_cases h : 0 < w.length
  · have h1 : IntKind.i64.wrap ((w.length : Int) - ((0 + 1 : Nat) : Int)) = ((w.length - 1 : Nat) : Int) := wrap_last h hw
    have h2 : w.length - 1 < w.length := by omega
    have h5 : w.drop (w.length - 1) = [w[w.length - 1]] := by
      rw [List.drop_eq_getElem_cons h2, show w.length - 1 + 1 = w.length by omega, List.drop_length]
    have h6 : w.getD (w.length - 1) 0 = w[w.length - 1] := by rw [List.getD_eq_getElem?_getD, List.getElem?_eq_getElem h2]; rfl
    rw [if_pos (by simp; omega), h1, if_pos ⟨by omega, by omega⟩]
    simp only [Int.toNat_natCast, h5, lst, h6, Out.andThen, Out.bindR_ret, List.getD_cons_zero, DC.bb_b]
    simp [h]
  · have h3 : w.length = 0 := by omega
    have h4 : w = [] := List.eq_nil_of_length_eq_zero h3
    subst h4
    simp [lst, Out.andThen, DC.bb_b]
def cutL (w : List UInt8) (c : UInt8) : List UInt8 := if lst w c = true then w.take (w.length - 1) else w
def fw (w : List UInt8) : List UInt8 := cutL w 33
def inr (w : List UInt8) : List UInt8 := if lst (fw w) 93 = true then (fw w).take ((fw w).length - 1) else []
theorem cutL_len (w : List UInt8) (c : UInt8) : (cutL w c).length ≤ w.length := by
  unfold cutL
  split
  · simp
  · exact Nat.le_refl _
theorem lst_pos {w : List UInt8} {c : UInt8} (h : lst w c = true) : 0 < w.length := by
  unfold lst at h
  simp at h
  exact h.1
theorem inr_len {w : List UInt8} (h : lst (fw w) 93 = true) : (inr w).length < w.length := by
  unfold inr
  rw [if_pos h, List.length_take]
  have := cutL_len w 33
  have := lst_pos h
  unfold fw at *
  omega
theorem spec_Fewer (n w : List UInt8) (hw : w.length ≤ 1048576) : r_spec_Fewer [.s n, .s w] = .ret [.s n, .s (fw w)] := by
  rw [eq_spec_Fewer]
  have hn := spec_Needed n w hw
  simp only [E_spec_Fewer, List.getD_cons_zero, List.getD_cons_succ, DC.ss_s, hn, Out.bindR_ret, DC.bb_b, lst_need, fw, cutL]
  by_cases h : lst w 33 = true
  · have hp := lst_pos h
    have h1 := wrap_last hp hw
    have h2 : w.length - 1 ≤ w.length := by omega
    simp [h, h1, h2, Out.andThen, DC.ss_s]
  · simp [h, Out.andThen, DC.ss_s]
theorem impl_Fewer (n w : List UInt8) (hw : w.length ≤ 1048576) : r_impl_Fewer [.s n, .s w] = .ret [.s n, .s (fw w)] := by
  rw [eq_impl_Fewer]
  have hs := hs_one w 33 hw
  simp only [E_impl_Fewer, eq_strings_TrimSuffix, E_strings_TrimSuffix, eq_internal_stringslite_TrimSuffix, E_internal_stringslite_TrimSuffix, List.getD_cons_zero, List.getD_cons_succ, DC.ss_s, hs, Out.bindR_ret, DC.bb_b, fw, cutL, List.length_cons, List.length_nil]
  by_cases h : lst w 33 = true
  · have hp := lst_pos h
    have h1 : IntKind.i64.wrap ((w.length : Int) - ((0 + 1 : Nat) : Int)) = ((w.length - 1 : Nat) : Int) := wrap_last hp hw
    have h2 : w.length - 1 ≤ w.length := by omega
    rw [if_pos h, if_pos h, h1, if_pos ⟨by omega, by omega⟩]
    simp [DC.ss_s]
  · simp [h, DC.ss_s]
theorem spec_Inner (n w : List UInt8) (hw : w.length ≤ 1048576) : r_spec_Inner [.s n, .s w] = .ret [.s n, .s (inr w)] := by
  rw [eq_spec_Inner]
  have hf := spec_Fewer n w hw
  have hl := cutL_len w 33
  simp only [E_spec_Inner, List.getD_cons_zero, List.getD_cons_succ, DC.ss_s, hf, Out.bindR_ret, DC.bb_b, inr]
  have hfl : (fw w).length ≤ 1048576 := by unfold fw; omega
  generalize fw w = u at *
  by_cases h : 0 < u.length
  · have h1 := wrap_last h hfl
    have h2 : u.length - 1 < u.length := by omega
    have h3 : u.length - 1 ≤ u.length := by omega
    have h4 : lst u 93 = (u.getD (u.length - 1) 0 == 93) := by simp [lst, h]
    have h5 := u8i (u.getD (u.length - 1) 0) 93
    have h6 : ((93 : UInt8).toNat : Int) = 93 := rfl
    rw [h6] at h5
    simp only [h1, Int.toNat_natCast, h5, h4]
    cases (u.getD (u.length - 1) 0 == 93) <;> simp [h, h2, h3, Out.andThen, DC.bb_b, DC.ss_s, h1]
  · have h4 : u = [] := List.eq_nil_of_length_eq_zero (by omega)
    subst h4
    simp [lst, Out.andThen, DC.bb_b, DC.ss_s]
theorem impl_Inner (n w : List UInt8) (hw : w.length ≤ 1048576) : r_impl_Inner [.s n, .s w] = .ret [.s n, .s (inr w)] := by
  rw [eq_impl_Inner]
  have hf := impl_Fewer n w hw
  have hl := cutL_len w 33
  have hfl : (fw w).length ≤ 1048576 := by unfold fw; omega
  have hs := hs_one (fw w) 93 hfl
  simp only [E_impl_Inner, eq_strings_CutSuffix, E_strings_CutSuffix, eq_internal_stringslite_CutSuffix, E_internal_stringslite_CutSuffix, List.getD_cons_zero, List.getD_cons_succ, DC.ss_s, hf, hs, Out.bindR_ret, DC.bb_b, inr, List.length_cons, List.length_nil]
  generalize fw w = u at *
  by_cases h : lst u 93 = true
  · have hp := lst_pos h
    have h1 : IntKind.i64.wrap ((u.length : Int) - ((0 + 1 : Nat) : Int)) = ((u.length - 1 : Nat) : Int) := wrap_last hp hfl
    simp only [h, Bool.not_true, Bool.false_eq_true, if_false, if_true, h1]
    rw [if_pos ⟨by omega, by omega⟩]
    simp [DC.ss_s, DC.bb_b]
  · simp [h, DC.ss_s, DC.bb_b]
theorem num_snoc (a : Nat) (l : List UInt8) (c : UInt8) : num a (l ++ [c]) = num a l * 10 + (c.toNat - 48) := by
  unfold num
  rw [List.foldl_append]
  rfl
theorem num_lt : ∀ (l : List UInt8) (a : Nat), l.all isFig = true → num a l < (a + 1) * 10 ^ l.length
  | [], a, _ => by simp [num_nil]
  | c :: r, a, h => by
    simp only [List.all_cons, Bool.and_eq_true, isFig, decide_eq_true_eq] at h
    rw [num_cons]
    refine Nat.lt_of_lt_of_le (num_lt r _ h.2) ?_
    rw [List.length_cons, Nat.pow_succ, Nat.mul_comm (10 ^ r.length) 10, ← Nat.mul_assoc]
    exact Nat.mul_le_mul_right _ (by omega)
theorem impl_Fits32 (s : List UInt8) (hs : s.length ≤ 1048576) : r_impl_Fits32 [.s s] = .ret [.b (fits32 s)] := by
  rw [eq_impl_Fits32]
  have h1 : s.length ≤ 281474976710656 := by omega
  rw [via_fits s _ (impl_IntOk s hs) h1, fits32_impl]
theorem fits_loop (s : List UInt8) (hs : s.length ≤ 11) (hi : intOk s = true) :
    Loop E_spec_Fits32L1 [.s s, .i (0 : Int), .i (0 : Int)] = .ex 0 [.s s, .i ((num 0 (s.drop (sgn s)) : Nat) : Int)] := by
  have hi0 := hi
  rw [intOk_eq] at hi
  simp only [Bool.and_eq_true] at hi
  have hfig := hi.2.1
  unfold figs at hfig
  rw [Bool.and_eq_true] at hfig
  have hall := hfig.2
  have hne : s.drop (sgn s) ≠ [] := by
    have := hfig.1
    intro h
    rw [h] at this
    simp at this
  have hsl := sgn_le s
  have key := Loop_upto (F := E_spec_Fits32L1) (st := fun i => [.s s, .i ((num 0 ((s.take i).drop (sgn s)) : Nat) : Int), .i (i : Int)]) (o := .ex 0 [.s s, .i ((num 0 (s.drop (sgn s)) : Nat) : Int)]) s.length 0 (fun j _ hj => ?step) ?fin
  · have key' : Loop E_spec_Fits32L1 [.s s, .i ((num 0 ((s.take 0).drop (sgn s)) : Nat) : Int), .i (0 : Int)] = .ex 0 [.s s, .i ((num 0 (s.drop (sgn s)) : Nat) : Int)] := key
    simpa [num_nil] using key'
  case step =>
    have hj2 : j < s.length := by omega
    have hg : s.getD j 0 = s[j] := by rw [List.getD_eq_getElem?_getD, List.getElem?_eq_getElem hj2]; rfl
    have hc1 : (j : Int) < (s.length : Int) := by omega
    by_cases hjs : j < sgn s
    · have hh : s.head? = some 45 := by
        unfold sgn at hjs
        split at hjs
        · assumption
        · omega
      have hs1 : sgn s = 1 := by simp [sgn, hh]
      have hj0 : j = 0 := by omega
      subst hj0
      have h45 : s[0] = 45 := by
        cases s with
        | nil => simp at hj2
        | cons c r => simpa using hh
      have e1 : (s.take 1).drop 1 = [] := by simp
      have hn : s ≠ [] := by rintro rfl; simp at hj2
      simp only [E_spec_Fits32L1, List.getD_cons_zero, List.getD_cons_succ, DC.ss_s, DC.ii_i, Int.toNat_natCast, hg, h45, hs1]
      simp [hn, hj2, Out.andThen, Out.andThenB, DC.ss_s, DC.ii_i, e1, num_nil, wrap_succ hj2 (show s.length ≤ 9223372036854775807 by omega)]
      exact wrap64 (by decide) (by decide)
    · have hcf : isFig s[j] = true := by
        refine List.all_eq_true.1 hall _ ?_
        have : s[j] = (s.drop (sgn s))[j - sgn s]'(by simp; omega) := by simp; congr 1; omega
        rw [this]
        exact List.getElem_mem _
      have hcf2 := hcf
      simp only [isFig, Bool.and_eq_true, decide_eq_true_eq] at hcf2
      have h45 : s[j] ≠ 45 := by
        intro h
        rw [h] at hcf2
        exact absurd hcf2.1 (by decide)
      have h45' : ¬ ((s[j].toNat : Int) = 45) := by omega
      have htk : (s.take (j + 1)).drop (sgn s) = (s.take j).drop (sgn s) ++ [s[j]] := by
        rw [List.take_succ_eq_append_getElem hj2, List.drop_append_of_le_length (by simp; omega)]
      have hallj : ((s.take j).drop (sgn s)).all isFig = true := by
        rw [List.all_eq_true] at hall ⊢
        intro x hx
        refine hall x ?_
        have : (s.take j).drop (sgn s) = (s.drop (sgn s)).take (j - sgn s) := by rw [List.drop_take]
        rw [this] at hx
        exact List.mem_of_mem_take hx
      have hlt := num_lt _ 0 hallj
      have hpw : (0 + 1) * 10 ^ ((s.take j).drop (sgn s)).length ≤ 10 ^ 11 := by
        rw [Nat.zero_add, Nat.one_mul]
        exact Nat.pow_le_pow_right (by omega) (by simp; omega)
      have e11 : (10 : Nat) ^ 11 = 100000000000 := by decide
      rw [e11] at hpw
      rw [htk, num_snoc]
      generalize num 0 ((s.take j).drop (sgn s)) = m at *
      have hmlt : m < 100000000000 := Nat.lt_of_lt_of_le hlt hpw
      have hcb : s[j].toNat < 256 := s[j].toNat_lt
      have w1 : IntKind.i64.wrap ((m : Int) * 10) = ((m * 10 : Nat) : Int) := by rw [wrap64 (by omega) (by omega)]; omega
      have w2 : IntKind.i64.wrap (s[j].toNat : Int) = (s[j].toNat : Int) := wrap64 (by omega) (by omega)
      have w3 : IntKind.i64.wrap (((m * 10 : Nat) : Int) + (s[j].toNat : Int)) = ((m * 10 + s[j].toNat : Nat) : Int) := by rw [wrap64 (by omega) (by omega)]; omega
      have w4 : IntKind.i64.wrap (((m * 10 + s[j].toNat : Nat) : Int) - 48) = ((m * 10 + (s[j].toNat - 48) : Nat) : Int) := by rw [wrap64 (by omega) (by omega)]; omega
      simp only [E_spec_Fits32L1, List.getD_cons_zero, List.getD_cons_succ, DC.ss_s, DC.ii_i, Int.toNat_natCast, hg, w1, w2, w3, w4]
      have hb : ((s[j].toNat : Int) != 45) = true := by simpa using h45'
      rw [if_pos (by simpa using hj2), if_pos ⟨by omega, hc1⟩, hb, if_pos rfl, if_pos ⟨by omega, hc1⟩]
      simp only [Out.andThen, Out.andThenB, List.getD_cons_zero, List.getD_cons_succ, DC.ss_s, DC.ii_i, wrap_succ hj2 (show s.length ≤ 9223372036854775807 by omega)]
  case fin =>
    refine Loop_ex ?_
    rw [Nat.zero_add, List.take_length]
    simp [E_spec_Fits32L1, DC.ii_i, DC.ss_s]
theorem spec_Fits32 (s : List UInt8) (hs : s.length ≤ 1048576) : r_spec_Fits32 [.s s] = .ret [.b (fits32 s)] := by
  rw [eq_spec_Fits32]
  have h1 := spec_IntOk s hs
  simp only [E_spec_Fits32, List.getD_cons_zero, DC.ss_s, h1, Out.bindR_ret, DC.bb_b]
  cases hi : intOk s with
  | false => simp [Out.andThen, DC.bb_b, fits32, hi]
  | true =>
    by_cases h11 : 11 < s.length
    · have h11' : (s.length : Int) > 11 := by omega
      simp [Out.andThen, DC.bb_b, h11', fits32_long h11, h11]
    · have h11' : ¬ (s.length : Int) > 11 := by omega
      have hl := fits_loop s (by omega) hi
      have hpos : 0 < s.length := by
        cases s with
        | nil => rw [intOk_eq] at hi; simp [figs, sgn] at hi
        | cons c r => simp
      have hpos' : (0 : Int) < (s.length : Int) := by omega
      have h0 : s.getD 0 0 = s[0] := by rw [List.getD_eq_getElem?_getD, List.getElem?_eq_getElem hpos]; rfl
      have hh : s.head? = some s[0] := by
        cases s with
        | nil => simp at hpos
        | cons c r => rfl
      simp only [Bool.not_true, Bool.false_eq_true, if_false, h11', decide_false, Out.andThen, List.getD_cons_zero, List.getD_cons_succ, DC.ss_s, DC.bb_b, hl, Out.andThenB, if_true, DC.ii_i]
      rw [if_pos ⟨by omega, hpos'⟩]
      have hz : (0 : Int).toNat = 0 := rfl
      rw [hz, h0]
      have h5 := u8i s[0] 45
      have h6 : ((45 : UInt8).toNat : Int) = 45 := rfl
      rw [h6] at h5
      rw [h5]
      unfold fits32
      rw [hi, Bool.true_and, hh]
      by_cases h45 : s[0] = 45
      · have hs1 : sgn s = 1 := by simp [sgn, hh, h45]
        rw [if_pos (by simpa using h45), if_pos (by rw [h45]), hs1]
        congr 3
        rw [decide_eq_decide]
        omega
      · have hs1 : sgn s = 0 := by simp [sgn, hh, h45]
        rw [if_neg (by simpa using h45), if_neg (by simpa using h45), hs1, List.drop_zero]
        congr 3
        rw [decide_eq_decide]
        omega
def scal (n : List UInt8) (k : Int) (t : List UInt8) : Bool :=
  if n = [73, 110, 116] then (k == 2) && fits32 t else if n = [70, 108, 111, 97, 116] then (k == 2) || (k == 3) else if n = [83, 116, 114, 105, 110, 103] then k == 4
  else if n = [66, 111, 111, 108, 101, 97, 110] then (k == 5) && ((t == [116, 114, 117, 101]) || (t == [102, 97, 108, 115, 101])) else (k == 2) || (k == 4)
theorem spec_scal (n t : List UInt8) (k : Int) (a b : List (List DC)) (ht : t.length ≤ 1048576) : r_spec_l19Scalar [.s n, .i k, .s t, .sl a, .sl b] = .ret [.b (scal n k t)] := by
  rw [eq_spec_l19Scalar]
  have h := spec_Fits32 t ht
  simp only [E_spec_l19Scalar, List.getD_cons_zero, List.getD_cons_succ, DC.ss_s, DC.ii_i, DC.ll_sl, h, Out.bindR_ret, DC.bb_b, scal]
  generalize fits32 t = x
  by_cases h1 : n = [73, 110, 116]
  · by_cases k2 : k = 2 <;> simp [h1, k2, Out.andThen, Out.andThenB, DC.bb_b]
  · by_cases h2 : n = [70, 108, 111, 97, 116]
    · by_cases k2 : k = 2 <;> simp [h1, h2, k2, Out.andThen, Out.andThenB, DC.bb_b]
    · by_cases h3 : n = [83, 116, 114, 105, 110, 103]
      · simp [h1, h2, h3, Out.andThen, Out.andThenB, DC.bb_b]
      · by_cases h4 : n = [66, 111, 111, 108, 101, 97, 110]
        · by_cases k5 : k = 5 <;> by_cases t1 : t = [116, 114, 117, 101] <;> simp [h1, h2, h3, h4, k5, t1, Out.andThen, Out.andThenB, DC.bb_b]
        · by_cases k2 : k = 2 <;> simp [h1, h2, h3, h4, k2, Out.andThen, Out.andThenB, DC.bb_b, DC.ii_i]
theorem impl_scal (n t : List UInt8) (k : Int) (a b : List (List DC)) (ht : t.length ≤ 1048576) : r_impl_fitsBuiltIn [.i k, .s t, .sl a, .sl b, .s n] = .ret [.b (scal n k t)] := by
  rw [eq_impl_fitsBuiltIn]
  have h := impl_Fits32 t ht
  simp only [E_impl_fitsBuiltIn, List.getD_cons_zero, List.getD_cons_succ, DC.ss_s, DC.ii_i, DC.ll_sl, h, Out.bindR_ret, DC.bb_b, scal]
  generalize fits32 t = x
  by_cases h1 : n = [73, 110, 116]
  · by_cases k2 : k = 2 <;> simp [h1, k2, Out.andThen, Out.andThenB, DC.bb_b]
  · by_cases h2 : n = [70, 108, 111, 97, 116]
    · by_cases k2 : k = 2 <;> simp [h1, h2, k2, Out.andThen, Out.andThenB, DC.bb_b]
    · by_cases h3 : n = [83, 116, 114, 105, 110, 103]
      · simp [h1, h2, h3, Out.andThen, Out.andThenB, DC.bb_b]
      · by_cases h4 : n = [66, 111, 111, 108, 101, 97, 110]
        · by_cases k5 : k = 5 <;> by_cases t1 : t = [116, 114, 117, 101] <;> simp [h1, h2, h3, h4, k5, t1, Out.andThen, Out.andThenB, DC.bb_b]
        · by_cases k2 : k = 2 <;> simp [h1, h2, h3, h4, k2, Out.andThen, Out.andThenB, DC.bb_b, DC.ii_i]
section
variable (s : List TDef) (sd sr : List (List DC))
def dS (v : TValue) (n w : List UInt8) : List DC := [.sl (s.map TDef.enc), .sl sd, .sl sr, .i v.kind, .s v.text, .sl (v.items.map TValue.enc), .sl (v.names.map S1), .s n, .s w]
open Classical in
noncomputable def goodF (v : TValue) (n w : List UInt8) : Bool := decide (r_spec_Fits (dS s sd sr v n w) = .ret [.b true])
def sameF (v : TValue) (n w : List UInt8) : Prop := r_spec_Fits (dS s sd sr v n w) = .ret [.b (goodF s sd sr v n w)] ∧ r_impl_Fits (dS s sd sr v n w) = .ret [.b (goodF s sd sr v n w)]
variable {s sd sr}
theorem sameF_of {v : TValue} {n w : List UInt8} (b : Bool) (h1 : r_spec_Fits (dS s sd sr v n w) = .ret [.b b]) (h2 : r_impl_Fits (dS s sd sr v n w) = .ret [.b b]) : sameF s sd sr v n w := by
  have : goodF s sd sr v n w = b := by
    unfold goodF
    rw [h1]
    cases b <;> simp
  unfold sameF
  rw [this]
  exact ⟨h1, h2⟩
theorem items_spec (I : List TValue) (n w : List UInt8) (k : Int) (t : List UInt8) (N : List (List DC)) (hI : I.length ≤ 1048576) (h : ∀ x ∈ I, sameF s sd sr x n w) :
    Loop E_spec_FitsL1 [.i (0 : Int), .sl (s.map TDef.enc), .sl sd, .sl sr, .i k, .s t, .sl (I.map TValue.enc), .sl N, .s n, .s w] = if I.all (fun x => goodF s sd sr x n w) = true then .ex 0 [] else .ret [.b false] := by
  rw [show (0 : Int) = ((0 : Nat) : Int) from rfl, Loop_find0 (l := I) (st := fun i => [.i (i : Int), .sl (s.map TDef.enc), .sl sd, .sl sr, .i k, .s t, .sl (I.map TValue.enc), .sl N, .s n, .s w]) (p := fun x => !goodF s sd sr x n w) (stop := fun _ _ => .ret [.b false]) (fin := .ex 0 []) (fun i hi => ?step) (fun _ _ => Out.esc_ret _) ?fin (Out.esc_ex _ _), goF_any]
  · have : I.any (fun x => !goodF s sd sr x n w) = !I.all (fun x => goodF s sd sr x n w) := by rw [List.not_all_eq_any_not]
    rw [this]
    cases I.all (fun x => goodF s sd sr x n w) <;> rfl
  case step =>
    have hx := (h _ (List.getElem_mem hi)).1
    unfold dS at hx
    simp only [E_spec_FitsL1, List.getD_cons_zero, List.getD_cons_succ, DC.bb_b, DC.ii_i, DC.ss_s, DC.ll_sl, Int.toNat_natCast, List.length_map, map_getD hi, TValue.enc_eq, hx, Out.bindR_ret]
    cases goodF s sd sr I[i] n w <;> simp [hi, Out.andThenB, DC.bb_b, DC.ii_i, DC.ss_s, DC.ll_sl, wrap_succ hi (show I.length ≤ 9223372036854775807 by omega)]
  case fin => simp [E_spec_FitsL1, DC.ii_i, DC.ll_sl]
theorem items_impl (I : List TValue) (n w : List UInt8) (hI : I.length ≤ 1048576) (hw : w.length ≤ 1048576) (h : ∀ x ∈ I, sameF s sd sr x n (inr w)) :
    (r_slices_ContainsFunc_impl_Value__impl_Fits_1 [.sl (I.map TValue.enc), .sl (s.map TDef.enc), .sl sd, .sl sr, .s n, .s w]) = .ret [.b (I.any fun x => !goodF s sd sr x n (inr w)), .sl (s.map TDef.enc), .sl sd, .sl sr, .s n, .s w] := by
  rw [eq_slices_ContainsFunc_impl_Value__impl_Fits_1]
  have key : r_slices_IndexFunc_impl_Value__impl_Fits_1 [.sl (I.map TValue.enc), .sl (s.map TDef.enc), .sl sd, .sl sr, .s n, .s w] = .ret [.i (placeOf (fun x => !goodF s sd sr x n (inr w)) I), .sl (s.map TDef.enc), .sl sd, .sl sr, .s n, .s w] := by
    rw [eq_slices_IndexFunc_impl_Value__impl_Fits_1]
    simp only [E_slices_IndexFunc_impl_Value__impl_Fits_1, List.getD_cons_zero, List.getD_cons_succ, DC.bb_b, DC.ii_i, DC.ss_s, DC.ll_sl, List.length_map]
    rw [show (0 : Int) = ((0 : Nat) : Int) from rfl, Loop_find0 (l := I) (st := fun i => [.sl (I.map TValue.enc), .i (I.length : Int), .i (i : Int), .sl (s.map TDef.enc), .sl sd, .sl sr, .s n, .s w]) (p := fun x => !goodF s sd sr x n (inr w)) (stop := fun i _ => .ret [.i (i : Int), .sl (s.map TDef.enc), .sl sd, .sl sr, .s n, .s w]) (fin := .ex 0 [.sl (s.map TDef.enc), .sl sd, .sl sr, .s n, .s w]) (fun i hi => ?step) (fun _ _ => Out.esc_ret _) ?fin (Out.esc_ex _ _), goF_place (g := fun i => [.i i, .sl (s.map TDef.enc), .sl sd, .sl sr, .s n, .s w]), placeOf]
    · cases I.findIdx? fun x => !goodF s sd sr x n (inr w) <;> simp [DC.ll_sl, DC.ss_s]
    case step =>
      have hx := (h _ (List.getElem_mem hi)).2
      have hn := impl_Inner n w hw
      unfold dS at hx
      simp only [E_slices_IndexFunc_impl_Value__impl_Fits_1L1, eq_impl_Fits_1, E_impl_Fits_1, List.getD_cons_zero, List.getD_cons_succ, DC.bb_b, DC.ii_i, DC.ss_s, DC.ll_sl, Int.toNat_natCast, List.length_map, map_getD hi, TValue.enc_eq, hn, hx, Out.bindR_ret]
      cases goodF s sd sr I[i] n (inr w) <;> simp [hi, Out.andThenB, DC.bb_b, DC.ii_i, DC.ss_s, DC.ll_sl, wrap_succ hi (show I.length ≤ 9223372036854775807 by omega)]
    case fin => simp [E_slices_IndexFunc_impl_Value__impl_Fits_1L1, DC.ii_i, DC.ll_sl, DC.ss_s]
  simp only [E_slices_ContainsFunc_impl_Value__impl_Fits_1, List.getD_cons_zero, List.getD_cons_succ, DC.bb_b, DC.ii_i, DC.ss_s, DC.ll_sl, key, Out.bindR_ret, placeOf_nonneg]
theorem enum_spec (l : List TEnumDef) (k : Int) (t : List UInt8) (x1 x2 : List (List DC)) (dk : Int) (de : Bool) (dd dn : List UInt8) (y1 y2 y3 y4 : List (List DC)) (dr : Bool) (y5 : List (List DC)) (hl : l.length ≤ 1048576) :
    Loop E_spec_FitsL2 [.i (0 : Int), .i k, .s t, .sl x1, .sl x2, .i dk, .b de, .s dd, .s dn, .sl y1, .sl y2, .sl y3, .sl (l.map TEnumDef.enc), .sl y4, .b dr, .sl y5] = if ((k == 6) && l.any fun e => e.name == t) = true then .ret [.b true] else .ex 3 [] := by
  rw [show (0 : Int) = ((0 : Nat) : Int) from rfl, Loop_find0 (l := l) (st := fun i => [.i (i : Int), .i k, .s t, .sl x1, .sl x2, .i dk, .b de, .s dd, .s dn, .sl y1, .sl y2, .sl y3, .sl (l.map TEnumDef.enc), .sl y4, .b dr, .sl y5]) (p := fun e => (k == 6) && (e.name == t)) (stop := fun _ _ => .ret [.b true]) (fin := .ex 3 []) (fun i hi => ?step) (fun _ _ => Out.esc_ret _) ?fin (Out.esc_ex _ _), goF_any]
  · have : (l.any fun e => (k == 6) && (e.name == t)) = ((k == 6) && l.any fun e => e.name == t) := by
      cases hk : (k == 6) with
      | true => simp
      | false => simp
    rw [this]
  case step =>
    simp only [E_spec_FitsL2, List.getD_cons_zero, List.getD_cons_succ, DC.bb_b, DC.ii_i, DC.ss_s, DC.ll_sl, Int.toNat_natCast, List.length_map, map_getD hi, TEnumDef.enc_eq]
    by_cases hk : k = 6
    · by_cases hp : l[i].name = t <;> simp [hk, hp, hi, Out.andThen, Out.andThenB, DC.bb_b, DC.ii_i, DC.ss_s, DC.ll_sl, wrap_succ hi (show l.length ≤ 9223372036854775807 by omega)]
    · simp [hk, hi, Out.andThen, Out.andThenB, DC.bb_b, DC.ii_i, DC.ss_s, DC.ll_sl, wrap_succ hi (show l.length ≤ 9223372036854775807 by omega)]
  case fin => simp [E_spec_FitsL2, DC.ii_i, DC.ll_sl]
theorem enum_impl (l : List TEnumDef) (k : Int) (t : List UInt8) (x1 x2 : List (List DC)) (hl : l.length ≤ 1048576) :
    r_slices_ContainsFunc_impl_EnumDef__impl_fitsName_1 [.sl (l.map TEnumDef.enc), .i k, .s t, .sl x1, .sl x2] = .ret [.b (l.any fun e => e.name == t), .i k, .s t, .sl x1, .sl x2] := by
  rw [eq_slices_ContainsFunc_impl_EnumDef__impl_fitsName_1]
  have key : r_slices_IndexFunc_impl_EnumDef__impl_fitsName_1 [.sl (l.map TEnumDef.enc), .i k, .s t, .sl x1, .sl x2] = .ret [.i (placeOf (fun e => e.name == t) l), .i k, .s t, .sl x1, .sl x2] := by
    rw [eq_slices_IndexFunc_impl_EnumDef__impl_fitsName_1]
    simp only [E_slices_IndexFunc_impl_EnumDef__impl_fitsName_1, List.getD_cons_zero, List.getD_cons_succ, DC.bb_b, DC.ii_i, DC.ss_s, DC.ll_sl, List.length_map]
    rw [show (0 : Int) = ((0 : Nat) : Int) from rfl, Loop_find0 (l := l) (st := fun i => [.sl (l.map TEnumDef.enc), .i (l.length : Int), .i (i : Int), .i k, .s t, .sl x1, .sl x2]) (p := fun e => e.name == t) (stop := fun i _ => .ret [.i (i : Int), .i k, .s t, .sl x1, .sl x2]) (fin := .ex 0 [.i k, .s t, .sl x1, .sl x2]) (fun i hi => ?step) (fun _ _ => Out.esc_ret _) ?fin (Out.esc_ex _ _), goF_place (g := fun i => [.i i, .i k, .s t, .sl x1, .sl x2]), placeOf]
    · cases l.findIdx? fun e => e.name == t <;> simp [DC.ll_sl, DC.ss_s, DC.ii_i]
    case step =>
      simp only [E_slices_IndexFunc_impl_EnumDef__impl_fitsName_1L1, eq_impl_fitsName_1, E_impl_fitsName_1, List.getD_cons_zero, List.getD_cons_succ, DC.bb_b, DC.ii_i, DC.ss_s, DC.ll_sl, Int.toNat_natCast, List.length_map, map_getD hi, TEnumDef.enc_eq, Out.bindR_ret]
      by_cases hp : l[i].name = t <;> simp [hp, hi, Out.andThenB, DC.bb_b, DC.ii_i, DC.ss_s, DC.ll_sl, wrap_succ hi (show l.length ≤ 9223372036854775807 by omega)]
    case fin => simp [E_slices_IndexFunc_impl_EnumDef__impl_fitsName_1L1, DC.ii_i, DC.ll_sl, DC.ss_s]
  simp only [E_slices_ContainsFunc_impl_EnumDef__impl_fitsName_1, List.getD_cons_zero, List.getD_cons_succ, DC.bb_b, DC.ii_i, DC.ss_s, DC.ll_sl, key, Out.bindR_ret, placeOf_nonneg]
noncomputable def badM (s : List TDef) (sd sr : List (List DC)) (ins : List TInDef) (N : List (List UInt8)) (I : List TValue) (i : Nat) : Bool :=
  if placeOf (fun d => d.name == N.getD i []) ins < 0 then true else ((N.take i).any (· == N.getD i []) || !(match I[i]?, ins[(placeOf (fun d => d.name == N.getD i []) ins).toNat]? with | some x, some d => goodF s sd sr x d.type'.name d.type'.wraps | _, _ => true))
theorem strs_at {N : List (List UInt8)} {i : Nat} (hi : i < N.length) : (N.map S1).getD i [] = [.s N[i]] := by
  rw [map_getD hi]
  rfl
theorem getD_at {α : Type} {N : List α} {i : Nat} (hi : i < N.length) (d : α) : N.getD i d = N[i] := by rw [List.getD_eq_getElem?_getD, List.getElem?_eq_getElem hi]; rfl
theorem members_spec (ins : List TInDef) (N : List (List UInt8)) (I : List TValue) (k : Int) (t : List UInt8) (hN : N.length = I.length) (hl : N.length ≤ 1048576) (hins : ins.length ≤ 1048576) (h : ∀ x ∈ I, ∀ d ∈ ins, sameF s sd sr x d.type'.name d.type'.wraps) :
    Loop E_spec_l19InputL1 [.sl (ins.map TInDef.enc), .i (0 : Int), .sl (s.map TDef.enc), .sl sd, .sl sr, .i k, .s t, .sl (I.map TValue.enc), .sl (N.map S1)] = if (List.range N.length).any (badM s sd sr ins N I) = true then .ret [.b false] else .ex 0 [.sl (ins.map TInDef.enc), .i k, .s t, .sl (I.map TValue.enc), .sl (N.map S1)] := by
  have hrl : (List.range N.length).length = N.length := List.length_range
  rw [show (0 : Int) = ((0 : Nat) : Int) from rfl, Loop_find0 (l := List.range N.length) (st := fun i => [.sl (ins.map TInDef.enc), .i (i : Int), .sl (s.map TDef.enc), .sl sd, .sl sr, .i k, .s t, .sl (I.map TValue.enc), .sl (N.map S1)]) (p := badM s sd sr ins N I) (stop := fun _ _ => .ret [.b false]) (fin := .ex 0 [.sl (ins.map TInDef.enc), .i k, .s t, .sl (I.map TValue.enc), .sl (N.map S1)]) (fun i hi => ?step) (fun _ _ => Out.esc_ret _) ?fin (Out.esc_ex _ _), goF_any]
  case step =>
    have hi1 : i < N.length := by rw [hrl] at hi; exact hi
    have hi2 : i < I.length := by omega
    have hp := spec_InAt ins N[i] hins
    have hh := spec_l18Has (N.take i) N[i] (by rw [List.length_take]; omega)
    have htk : (N.map S1).take i = (N.take i).map S1 := by rw [List.map_take]
    have hri : (List.range N.length)[i] = i := by simp
    rw [hri]
    unfold badM
    rw [getD_at hi1]
    simp only [E_spec_l19InputL1, List.getD_cons_zero, List.getD_cons_succ, DC.bb_b, DC.ii_i, DC.ss_s, DC.ll_sl, Int.toNat_natCast, List.length_map, strs_at hi1, hp, Out.bindR_ret, htk, hh, map_getD hi2, TValue.enc_eq, List.getElem?_eq_getElem hi2]
    rcases place_find (fun d : TInDef => d.name == N[i]) ins with ⟨h1, h2⟩ | ⟨j, hj, h1, h2, h3⟩
    · simp [h1, hi1, Out.andThen, Out.andThenB, DC.bb_b]
    · have hx := (h _ (List.getElem_mem hi2) _ (List.getElem_mem hj)).1
      unfold dS at hx
      have hj0 : ¬ ((j : Int) < 0) := by omega
      have hil : (i : Int) ≤ (N.length : Int) := by omega
      simp only [h1, hj0, decide_false, Bool.false_eq_true, if_false, Int.toNat_natCast, map_getD hj, TInDef.enc_eq, List.getD_cons_zero, List.getD_cons_succ, DC.ss_s, List.getElem?_eq_getElem hj, hx, Out.bindR_ret, DC.bb_b]
      cases (N.take i).any (· == N[i]) <;> cases goodF s sd sr I[i] ins[j].type'.name ins[j].type'.wraps <;> simp [hi1, hi2, hj, hil, Out.andThen, Out.andThenB, DC.bb_b, DC.ii_i, DC.ss_s, DC.ll_sl, wrap_succ hi1 (show N.length ≤ 9223372036854775807 by omega)]
  case fin => simp [E_spec_l19InputL1, DC.ii_i, DC.ll_sl, DC.ss_s]
theorem members_impl (ins : List TInDef) (N : List (List UInt8)) (I : List TValue) (k : Int) (t : List UInt8) (dk : Int) (de : Bool) (dd dn : List UInt8) (y1 y2 y3 y4 : List (List DC)) (dr : Bool) (y5 : List (List DC)) (hN : N.length = I.length) (hl : N.length ≤ 1048576) (hins : ins.length ≤ 1048576) (h : ∀ x ∈ I, ∀ d ∈ ins, sameF s sd sr x d.type'.name d.type'.wraps) :
    Loop E_impl_fitsInputL1 [.sl (N.map S1), .i (N.length : Int), .i (0 : Int), .sl (s.map TDef.enc), .sl sd, .sl sr, .i k, .s t, .sl (I.map TValue.enc), .sl (N.map S1), .i dk, .b de, .s dd, .s dn, .sl y1, .sl y2, .sl (ins.map TInDef.enc), .sl y3, .sl y4, .b dr, .sl y5] =
      if (List.range N.length).any (badM s sd sr ins N I) = true then .ret [.b false] else .ex 0 [.i k, .s t, .sl (I.map TValue.enc), .sl (N.map S1), .i dk, .b de, .s dd, .s dn, .sl y1, .sl y2, .sl (ins.map TInDef.enc), .sl y3, .sl y4, .b dr, .sl y5] := by
  have hrl : (List.range N.length).length = N.length := List.length_range
  rw [show (0 : Int) = ((0 : Nat) : Int) from rfl, Loop_find0 (l := List.range N.length) (st := fun i => [.sl (N.map S1), .i (N.length : Int), .i (i : Int), .sl (s.map TDef.enc), .sl sd, .sl sr, .i k, .s t, .sl (I.map TValue.enc), .sl (N.map S1), .i dk, .b de, .s dd, .s dn, .sl y1, .sl y2, .sl (ins.map TInDef.enc), .sl y3, .sl y4, .b dr, .sl y5]) (p := badM s sd sr ins N I) (stop := fun _ _ => .ret [.b false]) (fin := .ex 0 [.i k, .s t, .sl (I.map TValue.enc), .sl (N.map S1), .i dk, .b de, .s dd, .s dn, .sl y1, .sl y2, .sl (ins.map TInDef.enc), .sl y3, .sl y4, .b dr, .sl y5]) (fun i hi => ?step) (fun _ _ => Out.esc_ret _) ?fin (Out.esc_ex _ _), goF_any]
  case step =>
    have hi1 : i < N.length := by rw [hrl] at hi; exact hi
    have hi2 : i < I.length := by omega
    have hp := impl_InAt ins N[i] hins
    have hh := slices_Contains_string (N.take i) N[i] (by rw [List.length_take]; omega)
    have htk : (N.map S1).take i = (N.take i).map S1 := by rw [List.map_take]
    have hri : (List.range N.length)[i] = i := by simp
    rw [hri]
    unfold badM
    rw [getD_at hi1]
    simp only [E_impl_fitsInputL1, List.getD_cons_zero, List.getD_cons_succ, DC.bb_b, DC.ii_i, DC.ss_s, DC.ll_sl, Int.toNat_natCast, List.length_map, strs_at hi1, hp, Out.bindR_ret, htk, hh, map_getD hi2, TValue.enc_eq, List.getElem?_eq_getElem hi2]
    rcases place_find (fun d : TInDef => d.name == N[i]) ins with ⟨h1, h2⟩ | ⟨j, hj, h1, h2, h3⟩
    · simp [h1, hi1, Out.andThen, Out.andThenB, DC.bb_b]
    · have hx := (h _ (List.getElem_mem hi2) _ (List.getElem_mem hj)).2
      unfold dS at hx
      have hj0 : ¬ ((j : Int) < 0) := by omega
      have hil : (i : Int) ≤ (N.length : Int) := by omega
      simp only [h1, hj0, decide_false, Bool.false_eq_true, if_false, Int.toNat_natCast, map_getD hj, TInDef.enc_eq, List.getD_cons_zero, List.getD_cons_succ, DC.ss_s, List.getElem?_eq_getElem hj, hx, Out.bindR_ret, DC.bb_b]
      cases (N.take i).any (· == N[i]) <;> cases goodF s sd sr I[i] ins[j].type'.name ins[j].type'.wraps <;> simp [hi1, hi2, hj, hil, Out.andThen, Out.andThenB, DC.bb_b, DC.ii_i, DC.ss_s, DC.ll_sl, wrap_succ hi1 (show N.length ≤ 9223372036854775807 by omega)]
  case fin => simp [E_impl_fitsInputL1, DC.ii_i, DC.ll_sl, DC.ss_s, DC.bb_b]
theorem need_spec (R N : List (List UInt8)) (k : Int) (t : List UInt8) (x1 : List (List DC)) (hR : R.length ≤ 1048576) (hN : N.length ≤ 1048576) :
    Loop E_spec_l19InputL2 [.sl (R.map S1), .i (0 : Int), .i k, .s t, .sl x1, .sl (N.map S1)] = if R.any (fun r => !N.any (· == r)) = true then .ret [.b false] else .ex 2 [] := by
  rw [show (0 : Int) = ((0 : Nat) : Int) from rfl, Loop_find0 (l := R) (st := fun i => [.sl (R.map S1), .i (i : Int), .i k, .s t, .sl x1, .sl (N.map S1)]) (p := fun r => !N.any (· == r)) (stop := fun _ _ => .ret [.b false]) (fin := .ex 2 []) (fun i hi => ?step) (fun _ _ => Out.esc_ret _) ?fin (Out.esc_ex _ _), goF_any]
  case step =>
    have hh := spec_l18Has N R[i] hN
    simp only [E_spec_l19InputL2, List.getD_cons_zero, List.getD_cons_succ, DC.bb_b, DC.ii_i, DC.ss_s, DC.ll_sl, Int.toNat_natCast, List.length_map, strs_at hi, hh, Out.bindR_ret]
    cases N.any (· == R[i]) <;> simp [hi, Out.andThenB, DC.bb_b, DC.ii_i, DC.ss_s, DC.ll_sl, wrap_succ hi (show R.length ≤ 9223372036854775807 by omega)]
  case fin => simp [E_spec_l19InputL2, DC.ii_i, DC.ll_sl]
theorem need_impl (R N : List (List UInt8)) (k : Int) (t : List UInt8) (x1 : List (List DC)) (hR : R.length ≤ 1048576) (hN : N.length ≤ 1048576) :
    r_slices_ContainsFunc_string__impl_fitsInput_1 [.sl (R.map S1), .i k, .s t, .sl x1, .sl (N.map S1)] = .ret [.b (R.any (fun r => !N.any (· == r))), .i k, .s t, .sl x1, .sl (N.map S1)] := by
  rw [eq_slices_ContainsFunc_string__impl_fitsInput_1]
  have key : r_slices_IndexFunc_string__impl_fitsInput_1 [.sl (R.map S1), .i k, .s t, .sl x1, .sl (N.map S1)] = .ret [.i (placeOf (fun r => !N.any (· == r)) R), .i k, .s t, .sl x1, .sl (N.map S1)] := by
    rw [eq_slices_IndexFunc_string__impl_fitsInput_1]
    simp only [E_slices_IndexFunc_string__impl_fitsInput_1, List.getD_cons_zero, List.getD_cons_succ, DC.bb_b, DC.ii_i, DC.ss_s, DC.ll_sl, List.length_map]
    rw [show (0 : Int) = ((0 : Nat) : Int) from rfl, Loop_find0 (l := R) (st := fun i => [.sl (R.map S1), .i (R.length : Int), .i (i : Int), .i k, .s t, .sl x1, .sl (N.map S1)]) (p := fun r => !N.any (· == r)) (stop := fun i _ => .ret [.i (i : Int), .i k, .s t, .sl x1, .sl (N.map S1)]) (fin := .ex 0 [.i k, .s t, .sl x1, .sl (N.map S1)]) (fun i hi => ?step) (fun _ _ => Out.esc_ret _) ?fin (Out.esc_ex _ _), goF_place (g := fun i => [.i i, .i k, .s t, .sl x1, .sl (N.map S1)]), placeOf]
    · cases R.findIdx? fun r => !N.any (· == r) <;> simp [DC.ll_sl, DC.ss_s, DC.ii_i]
    case step =>
      have hh := slices_Contains_string N R[i] hN
      simp only [E_slices_IndexFunc_string__impl_fitsInput_1L1, eq_impl_fitsInput_1, E_impl_fitsInput_1, List.getD_cons_zero, List.getD_cons_succ, DC.bb_b, DC.ii_i, DC.ss_s, DC.ll_sl, Int.toNat_natCast, List.length_map, strs_at hi, hh, Out.bindR_ret]
      cases N.any (· == R[i]) <;> simp [hi, Out.andThenB, DC.bb_b, DC.ii_i, DC.ss_s, DC.ll_sl, wrap_succ hi (show R.length ≤ 9223372036854775807 by omega)]
    case fin => simp [E_slices_IndexFunc_string__impl_fitsInput_1L1, DC.ii_i, DC.ll_sl, DC.ss_s]
  simp only [E_slices_ContainsFunc_string__impl_fitsInput_1, List.getD_cons_zero, List.getD_cons_succ, DC.bb_b, DC.ii_i, DC.ss_s, DC.ll_sl, key, Out.bindR_ret, placeOf_nonneg]
noncomputable def inputOk (s : List TDef) (sd sr : List (List DC)) (ins : List TInDef) (v : TValue) : Bool :=
  if v.kind = 8 ∧ v.names.length = v.items.length ∧ v.names.length ≤ 100 then !(List.range v.names.length).any (badM s sd sr ins v.names v.items) && !(reqs ins).any (fun r => !v.names.any (· == r)) else false
theorem input_spec (ins : List TInDef) (v : TValue) (hl : v.names.length ≤ 1048576) (hins : DC.wt (.sl (ins.map TInDef.enc)) ≤ 1048576) (h : ∀ x ∈ v.items, ∀ d ∈ ins, sameF s sd sr x d.type'.name d.type'.wraps) :
    r_spec_l19Input [.sl (s.map TDef.enc), .sl sd, .sl sr, .sl (ins.map TInDef.enc), .i v.kind, .s v.text, .sl (v.items.map TValue.enc), .sl (v.names.map S1)] = .ret [.b (inputOk s sd sr ins v)] := by
  rw [eq_spec_l19Input]
  have hil : ins.length ≤ 1048576 := by rw [DC.wt, List.length_map] at hins; omega
  have hrq := spec_RequiredIn ins hins
  have hrl := reqs_len ins
  have hneed := need_spec (reqs ins) v.names v.kind v.text (v.items.map TValue.enc) (by omega) hl
  simp only [E_spec_l19Input, List.getD_cons_zero, List.getD_cons_succ, DC.bb_b, DC.ii_i, DC.ss_s, DC.ll_sl, List.length_map, inputOk]
  by_cases k8 : v.kind = 8
  · by_cases hN : v.names.length = v.items.length
    · by_cases h100 : v.names.length ≤ 100
      · have hm := members_spec ins v.names v.items v.kind v.text hN hl hil h
        rw [k8] at hm hneed
        have hb : ((v.names.length : Int) != (v.items.length : Int)) = false := by simp; omega
        have hc : ¬ (v.names.length : Int) > 100 := by omega
        rw [if_pos (show v.kind = 8 ∧ v.names.length = v.items.length ∧ v.names.length ≤ 100 from ⟨k8, hN, h100⟩)]
        simp only [k8, hb, hc, decide_false, bne_self_eq_false, Bool.false_eq_true, if_false, Out.andThen, List.getD_cons_zero, List.getD_cons_succ, DC.bb_b, DC.ii_i, DC.ss_s, DC.ll_sl, hm]
        cases (List.range v.names.length).any (badM s sd sr ins v.names v.items) with
        | true => simp [Out.andThenB]
        | false =>
          simp only [Bool.false_eq_true, if_false, Out.andThenB, if_true, List.getD_cons_zero, List.getD_cons_succ, DC.bb_b, DC.ii_i, DC.ss_s, DC.ll_sl, hrq, Out.bindR_ret, hneed]
          cases (reqs ins).any (fun r => !v.names.any (· == r)) <;> simp
      · have hb : ((v.names.length : Int) != (v.items.length : Int)) = false := by simp; omega
        have hc : (v.names.length : Int) > 100 := by omega
        rw [if_neg (show ¬ (v.kind = 8 ∧ v.names.length = v.items.length ∧ v.names.length ≤ 100) from fun hh => h100 hh.2.2)]
        simp [k8, hb, hc, Out.andThen, DC.bb_b]
    · have hb : ((v.names.length : Int) != (v.items.length : Int)) = true := by simp; omega
      rw [if_neg (show ¬ (v.kind = 8 ∧ v.names.length = v.items.length ∧ v.names.length ≤ 100) from fun hh => hN hh.2.1)]
      simp [k8, hb, Out.andThen, DC.bb_b]
  · rw [if_neg (show ¬ (v.kind = 8 ∧ v.names.length = v.items.length ∧ v.names.length ≤ 100) from fun hh => k8 hh.1)]
    simp [k8, Out.andThen, DC.bb_b]
theorem input_impl (d : TDef) (v : TValue) (hl : v.names.length ≤ 1048576) (hins : DC.wt (.sl (d.inputs.map TInDef.enc)) ≤ 1048576) (h : ∀ x ∈ v.items, ∀ e ∈ d.inputs, sameF s sd sr x e.type'.name e.type'.wraps) :
    r_impl_fitsInput ([.sl (s.map TDef.enc), .sl sd, .sl sr, .i v.kind, .s v.text, .sl (v.items.map TValue.enc), .sl (v.names.map S1), .i d.kind, .b d.ext, .s d.desc, .s d.name, .sl (d.faces.map S1), .sl (d.fields.map TFieldDef.enc), .sl (d.inputs.map TInDef.enc), .sl (d.values.map TEnumDef.enc), .sl (d.roots.map TRoot.enc), .b d.repeat', .sl (d.dirs.map TDir.enc)]) = .ret [.b (inputOk s sd sr d.inputs v)] := by
  rw [eq_impl_fitsInput]
  have hil : d.inputs.length ≤ 1048576 := by rw [DC.wt, List.length_map] at hins; omega
  have hrq := impl_RequiredIn d.inputs hins
  have hrl := reqs_len d.inputs
  have hneed := need_impl (reqs d.inputs) v.names v.kind v.text (v.items.map TValue.enc) (by omega) hl
  simp only [E_impl_fitsInput, List.getD_cons_zero, List.getD_cons_succ, DC.bb_b, DC.ii_i, DC.ss_s, DC.ll_sl, List.length_map, inputOk]
  by_cases k8 : v.kind = 8
  · by_cases hN : v.names.length = v.items.length
    · by_cases h100 : v.names.length ≤ 100
      · have hm := members_impl d.inputs v.names v.items v.kind v.text d.kind d.ext d.desc d.name (d.faces.map S1) (d.fields.map TFieldDef.enc) (d.values.map TEnumDef.enc) (d.roots.map TRoot.enc) d.repeat' (d.dirs.map TDir.enc) hN hl hil h
        rw [k8] at hm hneed
        have hb : ((v.names.length : Int) != (v.items.length : Int)) = false := by simp; omega
        have hc : ¬ (v.items.length : Int) > 100 := by omega
        rw [if_pos (show v.kind = 8 ∧ v.names.length = v.items.length ∧ v.names.length ≤ 100 from ⟨k8, hN, h100⟩)]
        simp only [k8, hb, hc, decide_false, bne_self_eq_false, Bool.false_eq_true, if_false, Out.andThen, List.getD_cons_zero, List.getD_cons_succ, DC.bb_b, DC.ii_i, DC.ss_s, DC.ll_sl, List.length_map, hm]
        cases (List.range v.names.length).any (badM s sd sr d.inputs v.names v.items) with
        | true => simp [Out.andThenB]
        | false =>
          simp only [Bool.false_eq_true, if_false, Out.andThenB, if_true, List.getD_cons_zero, List.getD_cons_succ, DC.bb_b, DC.ii_i, DC.ss_s, DC.ll_sl, hrq, Out.bindR_ret, hneed]
          cases (reqs d.inputs).any (fun r => !v.names.any (· == r)) <;> simp
      · have hb : ((v.names.length : Int) != (v.items.length : Int)) = false := by simp; omega
        have hc : (v.items.length : Int) > 100 := by omega
        rw [if_neg (show ¬ (v.kind = 8 ∧ v.names.length = v.items.length ∧ v.names.length ≤ 100) from fun hh => h100 hh.2.2)]
        simp [k8, hb, hc, Out.andThen, DC.bb_b]
    · have hb : ((v.names.length : Int) != (v.items.length : Int)) = true := by simp; omega
      rw [if_neg (show ¬ (v.kind = 8 ∧ v.names.length = v.items.length ∧ v.names.length ≤ 100) from fun hh => hN hh.2.1)]
      simp [k8, hb, Out.andThen, DC.bb_b]
  · rw [if_neg (show ¬ (v.kind = 8 ∧ v.names.length = v.items.length ∧ v.names.length ≤ 100) from fun hh => k8 hh.1)]
    simp [k8, Out.andThen, DC.bb_b]
end
section
variable {s : List TDef} {sd sr : List (List DC)}
theorem def_parts {d : TDef} (h : wtL d.enc ≤ 1048576) : DC.wt (.sl (d.inputs.map TInDef.enc)) ≤ 1048576 ∧ d.values.length ≤ 1048576 := by
  rw [TDef.enc_eq] at h
  simp only [wtL] at h
  refine ⟨by omega, ?_⟩
  have h1 : d.values.length ≤ DC.wt (.sl (d.values.map TEnumDef.enc)) := by
    rw [DC.wt, List.length_map]
    omega
  omega
theorem name_same (hw : DC.wt (.sl (s.map TDef.enc)) ≤ 1048576) (v : TValue) (ht : v.text.length ≤ 1048576) (hn : v.names.length ≤ 1048576) (n : List UInt8) (hI : ∀ x ∈ v.items, ∀ n w, w.length ≤ 1048576 → sameF s sd sr x n w) :
    ∃ b, (∀ w', fw w' = [] → v.kind ≠ 1 → ¬ (v.kind = 5 ∧ v.text = [110, 117, 108, 108]) → w'.length ≤ 1048576 → r_spec_Fits (dS s sd sr v n w') = .ret [.b b]) ∧
      r_impl_fitsName [.sl (s.map TDef.enc), .sl sd, .sl sr, .i v.kind, .s v.text, .sl (v.items.map TValue.enc), .sl (v.names.map S1), .s n] = .ret [.b b] := by
  have hlen := defs_len hw
  have hat := spec_TypeAt s sd sr n hlen
  have htd := impl_typeDef s sd sr n hlen
  have hb1 := spec_BuiltIn n
  have hb2 := impl_BuiltIn n
  have hs1 := spec_scal n v.text v.kind (v.items.map TValue.enc) (v.names.map S1) ht
  have hs2 := impl_scal n v.text v.kind (v.items.map TValue.enc) (v.names.map S1) ht
  have pre : ∀ (o : Out), (∀ w' : List UInt8, w'.length ≤ 1048576 → fw w' = [] → v.kind ≠ 1 → ¬ (v.kind = 5 ∧ v.text = [110, 117, 108, 108]) → E_spec_Fits (dS s sd sr v n w') = o) → ∀ w' : List UInt8, fw w' = [] → v.kind ≠ 1 → ¬ (v.kind = 5 ∧ v.text = [110, 117, 108, 108]) → w'.length ≤ 1048576 → r_spec_Fits (dS s sd sr v n w') = o :=
    fun o h w' h1 h2 h3 h4 => by rw [eq_spec_Fits]; exact h w' h4 h1 h2 h3
  rcases typeAt_cases s n with ⟨h1, h2⟩ | ⟨i, h, h1, h2, _⟩
  · refine ⟨builtIn n && scal n v.kind v.text, pre _ fun w' hw' hf k1 k5 => ?_, ?_⟩
    · have hfe := spec_Fewer n w' hw'
      rw [hf] at hfe
      simp only [dS, E_spec_Fits, List.getD_cons_zero, List.getD_cons_succ, DC.bb_b, DC.ii_i, DC.ss_s, DC.ll_sl]
      by_cases k : v.kind = 5
      · have ht5 : ¬ v.text = [110, 117, 108, 108] := fun e => k5 ⟨k, e⟩
        cases hb : builtIn n <;> simp [k, ht5, hfe, hat, h1, hb1, hb, hs1, Out.andThen, DC.bb_b, DC.ii_i, DC.ss_s, DC.ll_sl]
        all_goals (rw [k] at hs1; simp [hs1, DC.bb_b])
      · cases hb : builtIn n <;> simp [k1, k, hfe, hat, h1, hb1, hb, hs1, Out.andThen, DC.bb_b, DC.ii_i, DC.ss_s, DC.ll_sl]
    · rw [eq_impl_fitsName]
      simp only [E_impl_fitsName, List.getD_cons_zero, List.getD_cons_succ, DC.bb_b, DC.ii_i, DC.ss_s, DC.ll_sl, htd, h2, Option.getD_none, Option.isSome_none, zDef_enc, List.cons_append, List.nil_append, Out.bindR_ret, hb2, hs2]
      cases hb : builtIn n <;> simp [Out.andThen, DC.bb_b]
  · have hd := def_wt hw (List.getElem_mem h)
    obtain ⟨hins, hvl⟩ := def_parts hd
    have hi0 : ¬ ((i : Int) < 0) := by omega
    have hsI : ∀ x ∈ v.items, ∀ e ∈ (s[i]'h).inputs, sameF s sd sr x e.type'.name e.type'.wraps := fun x hx e he => by
      obtain ⟨j, hj, rfl⟩ := List.getElem_of_mem he
      exact hI x hx _ _ (wraps_len hins hj)
    have hin1 := input_spec (s[i]'h).inputs v hn hins hsI
    have hin2 := input_impl (s[i]'h) v hn hins hsI
    have he1 := enum_spec (s[i]'h).values v.kind v.text (v.items.map TValue.enc) (v.names.map S1) (s[i]'h).kind (s[i]'h).ext (s[i]'h).desc (s[i]'h).name ((s[i]'h).faces.map S1) ((s[i]'h).fields.map TFieldDef.enc) ((s[i]'h).inputs.map TInDef.enc) ((s[i]'h).roots.map TRoot.enc) (s[i]'h).repeat' ((s[i]'h).dirs.map TDir.enc) hvl
    have he2 := enum_impl (s[i]'h).values v.kind v.text (v.items.map TValue.enc) (v.names.map S1) hvl
    refine ⟨if (s[i]'h).kind = 1 then true else if (s[i]'h).kind = 5 then (v.kind == 6) && (s[i]'h).values.any (fun e => e.name == v.text) else if (s[i]'h).kind = 6 then inputOk s sd sr (s[i]'h).inputs v else false, pre _ fun w' hw' hf k1 k5 => ?_, ?_⟩
    · have hfe := spec_Fewer n w' hw'
      rw [hf] at hfe
      simp only [dS, E_spec_Fits, List.getD_cons_zero, List.getD_cons_succ, DC.bb_b, DC.ii_i, DC.ss_s, DC.ll_sl]
      have k1b : (v.kind == 1) = false := by simpa using k1
      have hpre : (if (v.kind == (5 : Int)) = true then Out.norm [.b (v.text == ([110, 117, 108, 108] : List UInt8)), .sl (s.map TDef.enc), .sl sd, .sl sr, .i v.kind, .s v.text, .sl (v.items.map TValue.enc), .sl (v.names.map S1), .s n, .s w'] else .norm [.b false, .sl (s.map TDef.enc), .sl sd, .sl sr, .i v.kind, .s v.text, .sl (v.items.map TValue.enc), .sl (v.names.map S1), .s n, .s w'])
          = .norm [.b false, .sl (s.map TDef.enc), .sl sd, .sl sr, .i v.kind, .s v.text, .sl (v.items.map TValue.enc), .sl (v.names.map S1), .s n, .s w'] := by
        by_cases k : v.kind = 5
        · have ht5 : (v.text == ([110, 117, 108, 108] : List UInt8)) = false := by simpa using fun e => k5 ⟨k, e⟩
          simp [k, ht5]
        · simp [k]
      rw [k1b, if_neg (by simp), hpre]
      have hz : ¬ ((([] : List UInt8).length : Int) > 0) := by simp
      simp only [Out.andThen, List.getD_cons_zero, List.getD_cons_succ, DC.bb_b, DC.ii_i, DC.ss_s, DC.ll_sl, Bool.false_eq_true, if_false, hfe, Out.bindR_ret, hz, decide_false, hat, h1, hi0, Int.toNat_natCast, map_getD h, List.length_map, TDef.enc_eq]
      simp only [show (0 : Int) ≤ (i : Int) from by omega, show (i : Int) < (s.length : Int) from by omega, eq_self, and_self, true_and, if_true]
      by_cases d1 : (s[i]'h).kind = 1
      · simp [d1, Out.andThenB]
      · by_cases d5 : (s[i]'h).kind = 5
        · rw [d5] at he1
          generalize ((v.kind == 6) && (s[i]'h).values.any (fun e => e.name == v.text)) = X at he1 ⊢
          cases X <;> simp [d5, he1, Out.andThenB]
        · by_cases d6 : (s[i]'h).kind = 6
          · simp [d1, d5, d6, Out.andThenB, hin1, DC.bb_b]
          · simp [d1, d5, d6, Out.andThenB]
    · rw [eq_impl_fitsName]
      simp only [E_impl_fitsName, List.getD_cons_zero, List.getD_cons_succ, DC.bb_b, DC.ii_i, DC.ss_s, DC.ll_sl, htd, h2, Option.getD_some, Option.isSome_some, TDef.enc_eq, List.cons_append, List.nil_append, Out.bindR_ret]
      by_cases d1 : (s[i]'h).kind = 1
      · simp [d1, Out.andThenB]
      · by_cases d5 : (s[i]'h).kind = 5
        · by_cases k6 : v.kind = 6
          · rw [k6] at he2
            simp [d5, k6, he2, Out.andThen, Out.andThenB, DC.bb_b]
          · simp [d5, k6, Out.andThen, Out.andThenB, DC.bb_b]
        · by_cases d6 : (s[i]'h).kind = 6
          · rw [d6] at hin2
            simp [d1, d5, d6, Out.andThenB, hin2, DC.bb_b]
          · simp [d1, d5, d6, Out.andThenB]
theorem impl_isNull (k : Int) (t : List UInt8) (a b : List (List DC)) : r_impl_isNull [.i k, .s t, .sl a, .sl b] = .ret [.b ((k == 5) && (t == [110, 117, 108, 108]))] := by
  rw [eq_impl_isNull]
  by_cases k5 : k = 5 <;> simp [E_impl_isNull, k5, Out.andThen, DC.bb_b, DC.ii_i, DC.ss_s]
theorem fits_node (hw : DC.wt (.sl (s.map TDef.enc)) ≤ 1048576) (v : TValue) (hv : wtL v.enc ≤ 1048576) (n w : List UInt8) (hwl : w.length ≤ 1048576) (hI : ∀ x ∈ v.items, ∀ n w, w.length ≤ 1048576 → sameF s sd sr x n w)
    (hW : (inr (fw w)).length < w.length → sameF s sd sr v n (inr (fw w))) : sameF s sd sr v n w := by
  rw [wsum_Value] at hv
  have ht : v.text.length ≤ 1048576 := by omega
  have hn : v.names.length ≤ 1048576 := by
    have : v.names.length ≤ DC.wt (.sl (v.names.map S1)) := by rw [DC.wt, List.length_map]; omega
    omega
  have hil : v.items.length ≤ 1048576 := by
    have : v.items.length ≤ DC.wt (.sl (v.items.map TValue.enc)) := by rw [DC.wt, List.length_map]; omega
    omega
  have hnull := impl_isNull v.kind v.text (v.items.map TValue.enc) (v.names.map S1)
  have hn1 := spec_Needed n w hwl
  have hn2 := impl_Needed n w hwl
  by_cases k1 : v.kind = 1
  · refine sameF_of true ?_ ?_
    · rw [eq_spec_Fits]; simp [E_spec_Fits, dS, k1, DC.ii_i]
    · rw [eq_impl_Fits]; simp [E_impl_Fits, dS, k1, DC.ii_i, Out.andThenB]
  by_cases k5 : v.kind = 5 ∧ v.text = [110, 117, 108, 108]
  · obtain ⟨k5, t5⟩ := k5
    rw [k5, t5] at hnull
    refine sameF_of (!need w) ?_ ?_
    · rw [eq_spec_Fits]; simp [E_spec_Fits, dS, k5, t5, DC.ii_i, DC.ss_s, DC.ll_sl, DC.bb_b, Out.andThen, hn1]
    · rw [eq_impl_Fits]; simp [E_impl_Fits, dS, k5, t5, DC.ii_i, DC.ss_s, DC.ll_sl, DC.bb_b, Out.andThenB, hnull, hn2]
  have k1b : (v.kind == 1) = false := by simpa using k1
  have hnb : ((v.kind == 5) && (v.text == ([110, 117, 108, 108] : List UInt8))) = false := by
    cases ha : (v.kind == 5) with
    | false => rfl
    | true =>
      have : ¬ v.text = [110, 117, 108, 108] := fun e => k5 ⟨by simpa using ha, e⟩
      simpa using this
  rw [hnb] at hnull
  have hfe1 := spec_Fewer n w hwl
  have hfe2 := impl_Fewer n w hwl
  have hul := cutL_len w 33
  have hful : (fw w).length ≤ 1048576 := by unfold fw; omega
  have hin1 := spec_Inner n (fw w) hful
  have hin2 := impl_Inner n (fw w) hful
  have hhs := hs_one (fw w) 93 hful
  have hpre : ∀ K : List DC → Out, Out.andThen (if (v.kind == (5 : Int)) = true then Out.norm [.b (v.text == ([110, 117, 108, 108] : List UInt8)), .sl (s.map TDef.enc), .sl sd, .sl sr, .i v.kind, .s v.text, .sl (v.items.map TValue.enc), .sl (v.names.map S1), .s n, .s w] else .norm [.b false, .sl (s.map TDef.enc), .sl sd, .sl sr, .i v.kind, .s v.text, .sl (v.items.map TValue.enc), .sl (v.names.map S1), .s n, .s w]) K
      = K [.b false, .sl (s.map TDef.enc), .sl sd, .sl sr, .i v.kind, .s v.text, .sl (v.items.map TValue.enc), .sl (v.names.map S1), .s n, .s w] := fun K => by
    cases ha : (v.kind == 5) with
    | false => rfl
    | true =>
      rw [ha, Bool.true_and] at hnb
      rw [hnb]
      rfl
  by_cases hl : lst (fw w) 93 = true
  · have hup := lst_pos hl
    have hlt : (inr (fw w)).length < w.length := by
      have h2 : (fw w).length ≤ w.length := by unfold fw; omega
      by_cases h3 : lst (fw (fw w)) 93 = true
      · have := inr_len h3
        omega
      · unfold inr
        rw [if_neg h3]
        simp
        omega
    have hsame := hW hlt
    have hup' : (((fw w).length : Nat) : Int) > 0 := by omega
    have hwr := wrap_last hup hful
    have hlast : ((((fw w).getD ((fw w).length - 1) 0).toNat : Int) == 93) = true := by
      have h5 := u8i ((fw w).getD ((fw w).length - 1) 0) 93
      have h6 : ((93 : UInt8).toNat : Int) = 93 := rfl
      rw [h6] at h5
      rw [h5]
      unfold lst at hl
      rw [Bool.and_eq_true] at hl
      exact hl.2
    by_cases k7 : v.kind = 7
    · have h7 : (v.kind != 7) = false := by simp [k7]
      have hit1 := items_spec (s := s) (sd := sd) (sr := sr) v.items n (inr (fw w)) v.kind v.text (v.names.map S1) hil (fun x hx => hI x hx n _ (by omega))
      have hit2 := items_impl (s := s) (sd := sd) (sr := sr) v.items n (fw w) hil hful (fun x hx => hI x hx n _ (by omega))
      refine sameF_of (v.items.all fun x => goodF s sd sr x n (inr (fw w))) ?_ ?_
      · rw [eq_spec_Fits]
        simp only [dS, E_spec_Fits, List.getD_cons_zero, List.getD_cons_succ, DC.bb_b, DC.ii_i, DC.ss_s, DC.ll_sl]
        rw [k1b, if_neg (by simp), hpre]
        simp only [List.getD_cons_zero, List.getD_cons_succ, DC.bb_b, DC.ii_i, DC.ss_s, DC.ll_sl, Bool.false_eq_true, if_false, hfe1, Out.bindR_ret, hup', decide_true, if_true, hwr, Int.toNat_natCast, hlast]
        rw [if_pos ⟨by omega, by omega⟩]
        simp only [Out.andThen, List.getD_cons_zero, List.getD_cons_succ, DC.bb_b, DC.ii_i, DC.ss_s, DC.ll_sl, if_true, hin1, Out.bindR_ret, h7, Bool.false_eq_true, if_false, hit1]
        cases (v.items.all fun x => goodF s sd sr x n (inr (fw w))) <;> simp [Out.andThenB]
      · rw [eq_impl_Fits]
        simp only [dS, E_impl_Fits, List.getD_cons_zero, List.getD_cons_succ, DC.bb_b, DC.ii_i, DC.ss_s, DC.ll_sl]
        rw [k1b, if_neg (by simp), hnull]
        simp only [Out.bindR_ret, List.getD_cons_zero, List.getD_cons_succ, DC.bb_b, DC.ii_i, DC.ss_s, DC.ll_sl, Bool.false_eq_true, if_false, Out.andThenB, if_true, hfe2, eq_strings_HasSuffix, E_strings_HasSuffix, hhs, hl, h7, hit2]
        rw [List.not_all_eq_any_not.symm]
        cases (v.items.all fun x => goodF s sd sr x n (inr (fw w))) <;> simp
    · have h7 : (v.kind != 7) = true := by simpa using k7
      unfold sameF dS at hsame
      refine sameF_of (goodF s sd sr v n (inr (fw w))) ?_ ?_
      · rw [eq_spec_Fits]
        simp only [dS, E_spec_Fits, List.getD_cons_zero, List.getD_cons_succ, DC.bb_b, DC.ii_i, DC.ss_s, DC.ll_sl]
        rw [k1b, if_neg (by simp), hpre]
        simp only [List.getD_cons_zero, List.getD_cons_succ, DC.bb_b, DC.ii_i, DC.ss_s, DC.ll_sl, Bool.false_eq_true, if_false, hfe1, Out.bindR_ret, hup', decide_true, if_true, hwr, Int.toNat_natCast, hlast]
        rw [if_pos ⟨by omega, by omega⟩]
        simp only [Out.andThen, List.getD_cons_zero, List.getD_cons_succ, DC.bb_b, DC.ii_i, DC.ss_s, DC.ll_sl, if_true, hin1, Out.bindR_ret, h7, hsame.1]
      · rw [eq_impl_Fits]
        simp only [dS, E_impl_Fits, List.getD_cons_zero, List.getD_cons_succ, DC.bb_b, DC.ii_i, DC.ss_s, DC.ll_sl]
        rw [k1b, if_neg (by simp), hnull]
        simp only [Out.bindR_ret, List.getD_cons_zero, List.getD_cons_succ, DC.bb_b, DC.ii_i, DC.ss_s, DC.ll_sl, Bool.false_eq_true, if_false, Out.andThenB, if_true, hfe2, eq_strings_HasSuffix, E_strings_HasSuffix, hhs, hl, h7, hin2, hsame.2]
  · have hlf : lst (fw w) 93 = false := by simpa using hl
    by_cases hu : fw w = []
    · obtain ⟨b, hb1, hb2⟩ := name_same (sd := sd) (sr := sr) hw v ht hn n hI
      refine sameF_of b (hb1 w hu k1 k5 hwl) ?_
      rw [eq_impl_Fits]
      rw [hu] at hfe2 hhs hlf
      simp only [dS, E_impl_Fits, List.getD_cons_zero, List.getD_cons_succ, DC.bb_b, DC.ii_i, DC.ss_s, DC.ll_sl]
      rw [k1b, if_neg (by simp), hnull]
      simp only [Out.bindR_ret, List.getD_cons_zero, List.getD_cons_succ, DC.bb_b, DC.ii_i, DC.ss_s, DC.ll_sl, Bool.false_eq_true, if_false, Out.andThenB, if_true, hfe2, eq_strings_HasSuffix, E_strings_HasSuffix, hhs, hlf]
      simp [Out.andThenB, DC.ii_i, DC.ss_s, DC.ll_sl, DC.bb_b, hb2]
    · have hup : 0 < (fw w).length := List.length_pos_iff.2 hu
      have hup' : (((fw w).length : Nat) : Int) > 0 := by omega
      have hwr := wrap_last hup hful
      have hlast : ((((fw w).getD ((fw w).length - 1) 0).toNat : Int) == 93) = false := by
        have h5 := u8i ((fw w).getD ((fw w).length - 1) 0) 93
        have h6 : ((93 : UInt8).toNat : Int) = 93 := rfl
        rw [h6] at h5
        rw [h5]
        unfold lst at hlf
        simpa [hup] using hlf
      refine sameF_of false ?_ ?_
      · rw [eq_spec_Fits]
        simp only [dS, E_spec_Fits, List.getD_cons_zero, List.getD_cons_succ, DC.bb_b, DC.ii_i, DC.ss_s, DC.ll_sl]
        rw [k1b, if_neg (by simp), hpre]
        simp only [List.getD_cons_zero, List.getD_cons_succ, DC.bb_b, DC.ii_i, DC.ss_s, DC.ll_sl, Bool.false_eq_true, if_false, hfe1, Out.bindR_ret, hup', decide_true, if_true, hwr, Int.toNat_natCast, hlast]
        rw [if_pos ⟨by omega, by omega⟩]
        simp only [Out.andThen, List.getD_cons_zero, List.getD_cons_succ, DC.bb_b, DC.ii_i, DC.ss_s, DC.ll_sl, Bool.false_eq_true, if_false, hup', decide_true, if_true]
      · rw [eq_impl_Fits]
        have hue : ((fw w) == ([] : List UInt8)) = false := by simpa using hu
        simp only [dS, E_impl_Fits, List.getD_cons_zero, List.getD_cons_succ, DC.bb_b, DC.ii_i, DC.ss_s, DC.ll_sl]
        rw [k1b, if_neg (by simp), hnull]
        simp only [Out.bindR_ret, List.getD_cons_zero, List.getD_cons_succ, DC.bb_b, DC.ii_i, DC.ss_s, DC.ll_sl, Bool.false_eq_true, if_false, Out.andThenB, if_true, hfe2, eq_strings_HasSuffix, E_strings_HasSuffix, hhs, hlf, hue, Bool.not_false]
theorem fits_same (hw : DC.wt (.sl (s.map TDef.enc)) ≤ 1048576) (v : TValue) : wtL v.enc ≤ 1048576 → ∀ n w : List UInt8, w.length ≤ 1048576 → sameF s sd sr v n w := by
  induction v using TValue.ind with | h v ih =>
  intro hv n w
  have hI : ∀ x ∈ v.items, ∀ n w : List UInt8, w.length ≤ 1048576 → sameF s sd sr x n w := fun x hx => by
    refine ih x hx ?_
    rw [wsum_Value] at hv
    have := wtV_mem (List.mem_map_of_mem (f := TValue.enc) hx)
    rw [DC.wt] at hv
    omega
  generalize hm : w.length = m
  induction m using Nat.strongRecOn generalizing w with
  | ind m ih2 =>
    intro hml
    refine fits_node hw v hv n w (by omega) hI fun hlt => ih2 _ (by omega) _ rfl (by omega)
end
def WV : Nat → Nat
  | 0 => 61
  | d + 1 => 3 * (WV d + 1) + 58
def DV (B : Nat) (b : List (List DC)) (o : Out) : Prop := ∃ (v : TValue) (i' h' : Int), o = .ret [.i v.kind, .s v.text, .sl (v.items.map TValue.enc), .sl (v.names.map S1), .sl b, .i i', .i h'] ∧ wtL v.enc ≤ B ∧ Cu b i'
theorem DV_leaf {B : Nat} {b : List (List DC)} {i h : Int} (k : Int) (t : List UInt8) (ht : t.length ≤ B) (c : Cu b i) : DV B b (.ret [.i k, .s t, .sl [], .sl [], .sl b, .i i, .i h]) := by
  refine ⟨⟨k, t, [], []⟩, i, h, rfl, ?_, c⟩
  rw [wsum_Value]
  simp only [List.map_nil, DC.wt, wtV, List.length_nil]
  omega
theorem names_wt : ∀ (l : List (List UInt8)) (k : Nat), (∀ x ∈ l, x.length ≤ k) → DC.wt (.sl (l.map S1)) ≤ l.length * (k + 1)
  | [], k, _ => by simp [DC.wt, wtV]
  | x :: l, k, h => by
    have ih := names_wt l k fun y hy => h y (by simp [hy])
    have hx := h x (by simp)
    simp only [DC.wt, List.map_cons, List.length_cons, wtV, S1, wtL] at ih ⊢
    rw [Nat.succ_mul]
    omega
theorem items_wt : ∀ (l : List TValue) (k : Nat), (∀ x ∈ l, wtL x.enc ≤ k) → DC.wt (.sl (l.map TValue.enc)) ≤ l.length * (k + 1)
  | [], k, _ => by simp [DC.wt, wtV]
  | x :: l, k, h => by
    have ih := items_wt l k fun y hy => h y (by simp [hy])
    have hx := h x (by simp)
    simp only [DC.wt, List.map_cons, List.length_cons, wtV] at ih ⊢
    rw [Nat.succ_mul]
    omega
theorem list_loop {b : List (List DC)} {B : Nat} {d : Int} {vars : Bool} {a1 : Int} {a2 a4 : List UInt8} {a3 : Int} (hv : ∀ (i h : Int), Cu b i → DV B b (r_spec_l07Value [.i (IntKind.i64.wrap (d - 1)), .b vars, .sl b, .i i, .i h])) :
    ∀ (m : Nat) (k i h : Int) (its : List TValue), Cu b i → 0 ≤ k → k ≤ 3 → (4 - k).toNat ≤ m → (its.length : Int) ≤ k → (∀ x ∈ its, wtL x.enc ≤ B) →
    ∃ (its' : List TValue) (i' h' : Int), Loop E_spec_l07ValueL2 [.i d, .b vars, .i k, .sl b, .i i, .i h, .i a1, .s a2, .i a3, .s a4, .sl (its.map TValue.enc)] = .ex 3 [.sl b, .i i', .i h', .i a1, .s a2, .i a3, .s a4, .sl (its'.map TValue.enc)] ∧ its'.length ≤ 3 ∧ (∀ x ∈ its', wtL x.enc ≤ B) ∧ Cu b i' := by
  intro m
  induction m with
  | zero => intro k i h its c k0 k3 hm; omega
  | succ m ih =>
    intro k i h its c k0 k3 hm hl hw
    obtain ⟨x, i1, h1, e1, x1, x2, c1⟩ := dr_Below h 4 (by decide) (by decide) c
    by_cases hk : k < x
    · obtain ⟨v, i2, h2, e2, hvB, c2⟩ := hv i1 h1 c1
      have hlim : its.length + 1 < LIM := by unfold LIM; omega
      have hwr : IntKind.i64.wrap (k + 1) = k + 1 := by rw [IntKind.wrap_i64]; omega
      obtain ⟨its', i', h', e4, hl', hw', c'⟩ := ih (k + 1) i2 h2 (its ++ [v]) c2 (by omega) (by omega) (by omega) (by rw [List.length_append]; simp only [List.length_cons, List.length_nil]; omega) (fun y hy => by
        rcases List.mem_append.1 hy with hy | hy
        · exact hw y hy
        · rw [List.mem_singleton.1 hy]; exact hvB)
      refine ⟨its', i', h', (Loop_norm ?_).trans e4, hl', hw', c'⟩
      simp only [E_spec_l07ValueL2, List.getD_cons_zero, List.getD_cons_succ, DC.bb_b, DC.ii_i, DC.ll_sl, DC.ss_s, e1, Out.bindR_ret, hk, decide_true, if_true, e2, List.length_map, List.length_cons, List.length_nil, Nat.zero_add, hlim, Out.andThenB, hwr, List.map_append, List.map_cons, List.map_nil, TValue.enc_eq v]
    · refine ⟨its, i1, h1, Loop_ex ?_, by omega, hw, c1⟩
      simp only [E_spec_l07ValueL2, List.getD_cons_zero, List.getD_cons_succ, DC.bb_b, DC.ii_i, DC.ll_sl, DC.ss_s, e1, Out.bindR_ret, hk, decide_false, Bool.false_eq_true, if_false]
theorem obj_loop {b : List (List DC)} {B : Nat} {d : Int} {vars : Bool} {a1 : Int} {a2 a4 : List UInt8} {a3 : Int} (hv : ∀ (i h : Int), Cu b i → DV B b (r_spec_l07Value [.i (IntKind.i64.wrap (d - 1)), .b vars, .sl b, .i i, .i h])) :
    ∀ (m : Nat) (k i h : Int) (its : List TValue) (ns : List (List UInt8)), Cu b i → 0 ≤ k → k ≤ 3 → (4 - k).toNat ≤ m → (its.length : Int) ≤ k → (∀ x ∈ its, wtL x.enc ≤ B) → (ns.length : Int) ≤ k → (∀ x ∈ ns, x.length ≤ 5) →
    ∃ (its' : List TValue) (ns' : List (List UInt8)) (i' h' : Int), Loop E_spec_l07ValueL1 [.i d, .b vars, .i k, .sl b, .i i, .i h, .i a1, .s a2, .i a3, .s a4, .sl (its.map TValue.enc), .sl (ns.map S1)] = .ex 1 [.sl b, .i i', .i h', .i a1, .s a2, .i a3, .s a4, .sl (its'.map TValue.enc), .sl (ns'.map S1)] ∧
      its'.length ≤ 3 ∧ (∀ x ∈ its', wtL x.enc ≤ B) ∧ ns'.length ≤ 3 ∧ (∀ x ∈ ns', x.length ≤ 5) ∧ Cu b i' := by
  intro m
  induction m with
  | zero => intro k i h its ns c k0 k3 hm; omega
  | succ m ih =>
    intro k i h its ns c k0 k3 hm hl hw hn hnw
    obtain ⟨x, i1, h1, e1, x1, x2, c1⟩ := dr_Below h 4 (by decide) (by decide) c
    by_cases hk : k < x
    · obtain ⟨n, i2, h2, e2, hnB, c2⟩ := dr_Name h1 c1
      obtain ⟨v, i3, h3, e3, hvB, c3⟩ := hv i2 h2 c2
      have hlim : its.length + 1 < LIM := by unfold LIM; omega
      have hlim2 : ns.length + 1 < LIM := by unfold LIM; omega
      have hwr : IntKind.i64.wrap (k + 1) = k + 1 := by rw [IntKind.wrap_i64]; omega
      obtain ⟨its', ns', i', h', e4, r1, r2, r3, r4, c'⟩ := ih (k + 1) i3 h3 (its ++ [v]) (ns ++ [n]) c3 (by omega) (by omega) (by omega) (by rw [List.length_append]; simp only [List.length_cons, List.length_nil]; omega) (fun y hy => by
        rcases List.mem_append.1 hy with hy | hy
        · exact hw y hy
        · rw [List.mem_singleton.1 hy]; exact hvB) (by rw [List.length_append]; simp only [List.length_cons, List.length_nil]; omega) (fun y hy => by
        rcases List.mem_append.1 hy with hy | hy
        · exact hnw y hy
        · rw [List.mem_singleton.1 hy]; exact hnB)
      refine ⟨its', ns', i', h', (Loop_norm ?_).trans e4, r1, r2, r3, r4, c'⟩
      simp only [E_spec_l07ValueL1, List.getD_cons_zero, List.getD_cons_succ, DC.bb_b, DC.ii_i, DC.ll_sl, DC.ss_s, e1, Out.bindR_ret, hk, decide_true, if_true, e2, e3, List.length_map, List.length_cons, List.length_nil, Nat.zero_add, hlim, hlim2, Out.andThenB, hwr, List.map_append, List.map_cons, List.map_nil, TValue.enc_eq v, S1]
    · refine ⟨its, ns, i1, h1, Loop_ex ?_, by omega, hw, by omega, hnw, c1⟩
      simp only [E_spec_l07ValueL1, List.getD_cons_zero, List.getD_cons_succ, DC.bb_b, DC.ii_i, DC.ll_sl, DC.ss_s, e1, Out.bindR_ret, hk, decide_false, Bool.false_eq_true, if_false]
theorem two_then {A : Out} {A2 : List DC → Out} {TT : List DC → Out} {P : Out → Prop} {Q : Int → Prop} (f : Int → List DC) (hA : ∃ v k, A = .norm v ∧ A2 v = .norm (f k) ∧ Q k) (h : ∀ k, Q k → P (TT (f k))) :
    P (Out.andThen A fun v2 => Out.andThen (A2 v2) TT) := by
  obtain ⟨v, k, h1, h2, h3⟩ := hA
  rw [h1]
  show P (Out.andThen (A2 v) TT)
  rw [h2]
  exact h k h3
theorem value_step {b : List (List DC)} {B : Nat} {D i : Int} (h : Int) {vars : Bool} (hD : D ≤ 3) (c : Cu b i) (hv : 0 < D → ∀ (i h : Int), Cu b i → DV B b (r_spec_l07Value [.i (IntKind.i64.wrap (D - 1)), .b vars, .sl b, .i i, .i h])) :
    DV (3 * (B + 1) + 58) b (r_spec_l07Value [.i D, .b vars, .sl b, .i i, .i h]) := by
  obtain ⟨x, i1, h1, e1, x1, x2, c1⟩ := dr_Below h 10 (by decide) (by decide) c
  rw [eq_spec_l07Value]
  simp only [E_spec_l07Value, List.getD_cons_zero, List.getD_cons_succ, DC.bb_b, DC.ii_i, DC.ll_sl, DC.ss_s, e1, Out.bindR_ret]
  refine two_then (Q := fun k => 0 ≤ k ∧ k ≤ 9 ∧ (D ≤ 0 → k ≤ 6)) (fun k => [.i D, .b vars, .i k, .sl b, .i i1, .i h1, .i 0, .s []]) ?_ ?_
  · by_cases hd : D ≤ 0
    · by_cases hx : x ≥ 7
      · have hw : IntKind.i64.wrap (x - 7) = x - 7 := by rw [IntKind.wrap_i64]; omega
        refine ⟨_, x - 7, if_pos (by simpa using hd), ?_, by omega, by omega, by omega⟩
        simp only [List.getD_cons_zero, List.getD_cons_succ, DC.bb_b, DC.ii_i, DC.ll_sl, DC.ss_s, hx, decide_true, if_true, hw]
      · refine ⟨_, x, if_pos (by simpa using hd), ?_, by omega, by omega, by omega⟩
        simp only [List.getD_cons_zero, List.getD_cons_succ, DC.bb_b, DC.ii_i, DC.ll_sl, DC.ss_s, hx, decide_false, Bool.false_eq_true, if_false]
    · refine ⟨_, x, if_neg (by simpa using hd), ?_, by omega, by omega, fun h => absurd h hd⟩
      simp only [List.getD_cons_zero, List.getD_cons_succ, DC.bb_b, DC.ii_i, DC.ll_sl, DC.ss_s, Bool.false_eq_true, if_false]
  · rintro k ⟨k0, k9, kd⟩
    simp only [List.getD_cons_zero, List.getD_cons_succ, DC.bb_b, DC.ii_i, DC.ll_sl, DC.ss_s]
    have hk : k = 0 ∨ k = 1 ∨ k = 2 ∨ k = 3 ∨ k = 4 ∨ k = 5 ∨ k = 6 ∨ k = 7 ∨ k = 8 ∨ k = 9 := by omega
    have lst : ∀ k : Int, 7 ≤ k → (D ≤ 0 → k ≤ 6) → 0 < D := fun k h1 h2 => by
      rcases Int.lt_or_le 0 D with h | h
      · exact h
      · have := h2 h; omega
    rcases hk with rfl | rfl | rfl | rfl | rfl | rfl | rfl | rfl | rfl | rfl
    · obtain ⟨y, i2, h2, e2, hy, c2⟩ := dr_Pick h1 [[48], [45, 49], [49, 50], [50, 49, 52, 55, 52, 56, 51, 54, 52, 56]] (by decide) (by decide) c1
      simp only [List.map_cons, List.map_nil, S1] at e2
      simp only [Int.reduceBEq, if_true, Bool.false_eq_true, if_false, e2, Out.bindR_ret, Out.andThenB, Out.andThen, List.getD_cons_zero, List.getD_cons_succ, DC.bb_b, DC.ii_i, DC.ll_sl, DC.ss_s]
      refine DV_leaf 2 y ?_ c2
      simp only [List.mem_cons, List.not_mem_nil, or_false] at hy
      rcases hy with rfl | rfl | rfl | rfl <;> simp <;> omega
    · obtain ⟨y, i2, h2, e2, hy, c2⟩ := dr_Pick h1 [[49, 46, 53], [49, 101, 51]] (by decide) (by decide) c1
      simp only [List.map_cons, List.map_nil, S1] at e2
      simp only [Int.reduceBEq, if_true, Bool.false_eq_true, if_false, e2, Out.bindR_ret, Out.andThenB, Out.andThen, List.getD_cons_zero, List.getD_cons_succ, DC.bb_b, DC.ii_i, DC.ll_sl, DC.ss_s]
      refine DV_leaf 3 y ?_ c2
      simp only [List.mem_cons, List.not_mem_nil, or_false] at hy
      rcases hy with rfl | rfl <;> simp <;> omega
    · obtain ⟨y, i2, h2, e2, hy, c2⟩ := dr_Text h1 c1
      simp only [Int.reduceBEq, if_true, Bool.false_eq_true, if_false, e2, Out.bindR_ret, Out.andThenB, Out.andThen, List.getD_cons_zero, List.getD_cons_succ, DC.bb_b, DC.ii_i, DC.ll_sl, DC.ss_s]
      exact DV_leaf 4 y (by omega) c2
    · obtain ⟨y, i2, h2, e2, hy, c2⟩ := dr_Pick h1 [[116, 114, 117, 101], [102, 97, 108, 115, 101], [110, 117, 108, 108]] (by decide) (by decide) c1
      simp only [List.map_cons, List.map_nil, S1] at e2
      simp only [Int.reduceBEq, if_true, Bool.false_eq_true, if_false, e2, Out.bindR_ret, Out.andThenB, Out.andThen, List.getD_cons_zero, List.getD_cons_succ, DC.bb_b, DC.ii_i, DC.ll_sl, DC.ss_s]
      refine DV_leaf 5 y ?_ c2
      simp only [List.mem_cons, List.not_mem_nil, or_false] at hy
      rcases hy with rfl | rfl | rfl <;> simp <;> omega
    · obtain ⟨y, i2, h2, e2, hy, c2⟩ := dr_Pick h1 [[82, 69, 68], [66, 76, 85, 69], [111, 110], [116, 121, 112, 101]] (by decide) (by decide) c1
      simp only [List.map_cons, List.map_nil, S1] at e2
      simp only [Int.reduceBEq, if_true, Bool.false_eq_true, if_false, e2, Out.bindR_ret, Out.andThenB, Out.andThen, List.getD_cons_zero, List.getD_cons_succ, DC.bb_b, DC.ii_i, DC.ll_sl, DC.ss_s]
      refine DV_leaf 6 y ?_ c2
      simp only [List.mem_cons, List.not_mem_nil, or_false] at hy
      rcases hy with rfl | rfl | rfl | rfl <;> simp <;> omega
    · cases vars with
      | true =>
        obtain ⟨y, i2, h2, e2, hy, c2⟩ := dr_Pick h1 [[97], [98], [118]] (by decide) (by decide) c1
        simp only [List.map_cons, List.map_nil, S1] at e2
        simp only [Int.reduceBEq, if_true, Bool.false_eq_true, if_false, e2, Out.bindR_ret, Out.andThenB, Out.andThen, List.getD_cons_zero, List.getD_cons_succ, DC.bb_b, DC.ii_i, DC.ll_sl, DC.ss_s]
        refine DV_leaf 1 y ?_ c2
        simp only [List.mem_cons, List.not_mem_nil, or_false] at hy
        rcases hy with rfl | rfl | rfl <;> simp <;> omega
      | false =>
        simp only [Int.reduceBEq, if_true, Bool.false_eq_true, if_false, Out.bindR_ret, Out.andThenB, Out.andThen, List.getD_cons_zero, List.getD_cons_succ, DC.bb_b, DC.ii_i, DC.ll_sl, DC.ss_s]
        exact DV_leaf 2 [55] (by simp) c1
    · cases vars with
      | true =>
        obtain ⟨y, i2, h2, e2, hy, c2⟩ := dr_Pick h1 [[97], [98], [118]] (by decide) (by decide) c1
        simp only [List.map_cons, List.map_nil, S1] at e2
        simp only [Int.reduceBEq, if_true, Bool.false_eq_true, if_false, e2, Out.bindR_ret, Out.andThenB, Out.andThen, List.getD_cons_zero, List.getD_cons_succ, DC.bb_b, DC.ii_i, DC.ll_sl, DC.ss_s]
        refine DV_leaf 1 y ?_ c2
        simp only [List.mem_cons, List.not_mem_nil, or_false] at hy
        rcases hy with rfl | rfl | rfl <;> simp <;> omega
      | false =>
        simp only [Int.reduceBEq, if_true, Bool.false_eq_true, if_false, Out.bindR_ret, Out.andThenB, Out.andThen, List.getD_cons_zero, List.getD_cons_succ, DC.bb_b, DC.ii_i, DC.ll_sl, DC.ss_s]
        exact DV_leaf 2 [55] (by simp) c1
    · obtain ⟨its, ns, i2, h2, e2, r1, r2, r3, r4, c2⟩ := obj_loop (d := D) (vars := vars) (a1 := 0) (a2 := []) (a3 := 8) (a4 := []) (hv (lst 7 (by decide) kd)) 4 0 i1 h1 [] [] c1 (by decide) (by decide) (by decide) (by simp) (by simp) (by simp) (by simp)
      simp only [List.map_nil] at e2
      simp only [Int.reduceBEq, if_true, Bool.false_eq_true, if_false, e2, Out.bindR_ret, Out.andThenB, Out.andThen, List.getD_cons_zero, List.getD_cons_succ, DC.bb_b, DC.ii_i, DC.ll_sl, DC.ss_s]
      refine ⟨⟨8, [], its, ns⟩, i2, h2, rfl, ?_, c2⟩
      rw [wsum_Value]
      have q1 := items_wt its B r2
      have q2 := names_wt ns 5 r4
      have q3 : its.length * (B + 1) ≤ 3 * (B + 1) := Nat.mul_le_mul_right _ r1
      simp only [List.length_nil]
      omega
    all_goals
      (obtain ⟨its, i2, h2, e2, r1, r2, c2⟩ := list_loop (d := D) (vars := vars) (a1 := 0) (a2 := []) (a3 := 7) (a4 := []) (hv (lst _ (by decide) kd)) 4 0 i1 h1 [] c1 (by decide) (by decide) (by decide) (by simp) (by simp)
       simp only [List.map_nil] at e2
       simp only [Int.reduceBEq, if_true, Bool.false_eq_true, if_false, e2, Out.bindR_ret, Out.andThenB, Out.andThen, List.getD_cons_zero, List.getD_cons_succ, DC.bb_b, DC.ii_i, DC.ll_sl, DC.ss_s]
       refine ⟨⟨7, [], its, []⟩, i2, h2, rfl, ?_, c2⟩
       rw [wsum_Value]
       have q1 := items_wt its B r2
       have q3 : its.length * (B + 1) ≤ 3 * (B + 1) := Nat.mul_le_mul_right _ r1
       simp only [List.length_nil, List.map_nil, DC.wt, wtV]
       simp only [DC.wt] at q1
       omega)
theorem dr_Value {b : List (List DC)} {vars : Bool} : ∀ (d : Nat) (i h : Int), d ≤ 3 → Cu b i → DV (WV d) b (r_spec_l07Value [.i (d : Int), .b vars, .sl b, .i i, .i h])
  | 0, i, h, hd, c => value_step (B := 0) h (by omega) c fun h0 => absurd h0 (by decide)
  | d + 1, i, h, hd, c => value_step (B := WV d) h (by omega) c fun _ i' h' c' => by
    have hw : IntKind.i64.wrap (((d + 1 : Nat) : Int) - 1) = (d : Int) := by rw [IntKind.wrap_i64]; omega
    rw [hw]
    exact dr_Value d i' h' (by omega) c'
theorem inr_lt {w : List UInt8} (h : 0 < w.length) : (inr w).length < w.length := by
  by_cases hl : lst (fw w) 93 = true
  · exact inr_len hl
  · unfold inr
    rw [if_neg hl]
    exact h
theorem DV.mono {B B' : Nat} {b : List (List DC)} {o : Out} (h : DV B b o) (hb : B ≤ B') : DV B' b o := by
  obtain ⟨v, i, h', e, hw, c⟩ := h
  exact ⟨v, i, h', e, Nat.le_trans hw hb, c⟩
def BF : Nat → Nat
  | 0 => 250
  | m + 1 => 3 * (BF m + 1) + 100
theorem BF_ge (m : Nat) : 250 ≤ BF m := by
  induction m with
  | zero => exact Nat.le_refl _
  | succ m ih => rw [BF]; omega
theorem for_loop {b : List (List DC)} {B : Nat} {D : Int} {n u : List UInt8} (hu : u.length ≤ 100) {a1 a3 : Int} {a2 a4 : List UInt8} (hv : ∀ (i h : Int), Cu b i → DV B b (r_spec_l19For [.s n, .s (inr u), .i (IntKind.i64.wrap (D - 1)), .sl b, .i i, .i h])) :
    ∀ (m : Nat) (k i h : Int) (its : List TValue), Cu b i → 0 ≤ k → k ≤ 2 → (3 - k).toNat ≤ m → (its.length : Int) ≤ k → (∀ x ∈ its, wtL x.enc ≤ B) →
    ∃ (its' : List TValue) (i' h' : Int), Loop E_spec_l19ForL1 [.i D, .i k, .sl b, .i i, .i h, .s n, .s u, .i a1, .s a2, .i a3, .s a4, .sl (its.map TValue.enc)] = .ex 0 [.sl b, .i i', .i h', .i a1, .s a2, .i a3, .s a4, .sl (its'.map TValue.enc)] ∧ its'.length ≤ 2 ∧ (∀ x ∈ its', wtL x.enc ≤ B) ∧ Cu b i' := by
  intro m
  induction m with
  | zero => intro k i h its c k0 k3 hm; omega
  | succ m ih =>
    intro k i h its c k0 k3 hm hl hw
    obtain ⟨x, i1, h1, e1, x1, x2, c1⟩ := dr_Below h 3 (by decide) (by decide) c
    by_cases hk : k < x
    · have hin := spec_Inner n u (by omega)
      obtain ⟨v, i2, h2, e2, hvB, c2⟩ := hv i1 h1 c1
      have hlim : its.length + 1 < LIM := by unfold LIM; omega
      have hwr : IntKind.i64.wrap (k + 1) = k + 1 := by rw [IntKind.wrap_i64]; omega
      obtain ⟨its', i', h', e4, hl', hw', c'⟩ := ih (k + 1) i2 h2 (its ++ [v]) c2 (by omega) (by omega) (by omega) (by rw [List.length_append]; simp only [List.length_cons, List.length_nil]; omega) (fun y hy => by
        rcases List.mem_append.1 hy with hy | hy
        · exact hw y hy
        · rw [List.mem_singleton.1 hy]; exact hvB)
      refine ⟨its', i', h', (Loop_norm ?_).trans e4, hl', hw', c'⟩
      simp only [E_spec_l19ForL1, List.getD_cons_zero, List.getD_cons_succ, DC.bb_b, DC.ii_i, DC.ll_sl, DC.ss_s, e1, Out.bindR_ret, hk, decide_true, if_true, hin, e2, List.length_map, List.length_cons, List.length_nil, Nat.zero_add, hlim, Out.andThenB, hwr, List.map_append, List.map_cons, List.map_nil, TValue.enc_eq v]
    · refine ⟨its, i1, h1, Loop_ex ?_, by omega, hw, c1⟩
      simp only [E_spec_l19ForL1, List.getD_cons_zero, List.getD_cons_succ, DC.bb_b, DC.ii_i, DC.ll_sl, DC.ss_s, e1, Out.bindR_ret, hk, decide_false, Bool.false_eq_true, if_false]
theorem then_one {A : Out} {TT : List DC → Out} {P : Out → Prop} {σ : Type} {Q : σ → Prop} (f : σ → List DC) (hA : ∃ s, A = .norm (f s) ∧ Q s) (h : ∀ s, Q s → P (TT (f s))) : P (Out.andThen A TT) := by
  obtain ⟨s, h1, h2⟩ := hA
  rw [h1]
  exact h s h2
theorem for_step {b : List (List DC)} {B : Nat} (hB : 250 ≤ B) {D i : Int} (h : Int) {n w : List UInt8} (hw : w.length ≤ 100) (hD : D ≤ 3) (hD2 : -100 ≤ D) (c : Cu b i)
    (hv : ∀ (n' w' : List UInt8) (D' : Int), D' = D - 1 → (w'.length < w.length ∨ (w' = [] ∧ 0 < D)) → ∀ (i h : Int), Cu b i → DV B b (r_spec_l19For [.s n', .s w', .i D', .sl b, .i i, .i h])) :
    DV (3 * (B + 1) + 100) b (r_spec_l19For [.s n, .s w, .i D, .sl b, .i i, .i h]) := by
  obtain ⟨o1, i1, h1, e1, c1⟩ := dr_Once h 12 (by decide) (by decide) c
  have hwd : IntKind.i64.wrap (D - 1) = D - 1 := by rw [IntKind.wrap_i64]; omega
  have hne := spec_Needed n w (by omega)
  have hfe := spec_Fewer n w (by omega)
  rw [eq_spec_l19For]
  simp only [E_spec_l19For, List.getD_cons_zero, List.getD_cons_succ, DC.bb_b, DC.ii_i, DC.ll_sl, DC.ss_s, e1, Out.bindR_ret]
  cases o1 with
  | true =>
    obtain ⟨v, i2, h2, e2, hvB, c2⟩ := dr_Value (b := b) (vars := true) 2 i1 h1 (by decide) c1
    have e2' : r_spec_l07Value [.i (2 : Int), .b true, .sl b, .i i1, .i h1] = .ret [.i v.kind, .s v.text, .sl (v.items.map TValue.enc), .sl (v.names.map S1), .sl b, .i i2, .i h2] := e2
    simp only [if_true, e2', Out.bindR_ret, List.getD_cons_zero, List.getD_cons_succ, DC.bb_b, DC.ii_i, DC.ll_sl, DC.ss_s]
    exact ⟨v, i2, h2, rfl, Nat.le_trans hvB (by have : WV 2 = 793 := rfl; omega), c2⟩
  | false =>
    simp only [Bool.false_eq_true, if_false, hne, Out.bindR_ret, List.getD_cons_zero, List.getD_cons_succ, DC.bb_b, DC.ii_i, DC.ll_sl, DC.ss_s]
    refine then_one (Q := fun s : Bool × Int × Int => Cu b s.2.1) (fun s => [.i D, .b s.1, .sl b, .i s.2.1, .i s.2.2, .s n, .s w, .i 0, .s []]) ?_ ?_
    · cases need w with
      | true => exact ⟨(false, i1, h1), by simp, c1⟩
      | false =>
        obtain ⟨o2, i2, h2, e2, c2⟩ := dr_Once h1 8 (by decide) (by decide) c1
        exact ⟨(o2, i2, h2), by simp [e2, DC.bb_b, DC.ii_i, DC.ll_sl], c2⟩
    · rintro ⟨o2, i2, h2⟩ c2
      have c2 : Cu b i2 := c2
      simp only [List.getD_cons_zero, List.getD_cons_succ, DC.bb_b, DC.ii_i, DC.ll_sl, DC.ss_s]
      cases o2 with
      | true =>
        simp only [if_true]
        exact DV_leaf 5 [110, 117, 108, 108] (by simp only [List.length_cons, List.length_nil]; omega) c2
      | false =>
        simp only [Bool.false_eq_true, if_false, hfe, Out.bindR_ret, List.getD_cons_zero, List.getD_cons_succ, DC.bb_b, DC.ii_i, DC.ll_sl, DC.ss_s]
        have hfl := cutL_len w 33
        by_cases hp : 0 < (fw w).length
        · have hp' : ((fw w).length : Int) > 0 := by omega
          have hfl' : (fw w).length ≤ w.length := hfl
          obtain ⟨its, i3, h3, e3, r1, r2, c3⟩ := for_loop (b := b) (D := D) (n := n) (u := fw w) (a1 := 0) (a2 := []) (a3 := 7) (a4 := []) (by omega) (fun i h c => by
            rw [hwd]
            exact hv n (inr (fw w)) (D - 1) rfl (.inl (Nat.lt_of_lt_of_le (inr_lt hp) hfl')) i h c) 3 0 i2 h2 [] c2 (by decide) (by decide) (by decide) (by simp) (by simp)
          simp only [List.map_nil] at e3
          simp only [hp', decide_true, if_true, e3, Out.andThenB, List.getD_cons_zero, List.getD_cons_succ, DC.bb_b, DC.ii_i, DC.ll_sl, DC.ss_s]
          refine ⟨⟨7, [], its, []⟩, i3, h3, rfl, ?_, c3⟩
          rw [wsum_Value]
          have q1 := items_wt its B r2
          have q3 : its.length * (B + 1) ≤ 2 * (B + 1) := Nat.mul_le_mul_right _ r1
          simp only [List.length_nil, List.map_nil, DC.wt, wtV]
          simp only [DC.wt] at q1
          omega
        · have hp' : ¬ ((fw w).length : Int) > 0 := by omega
          simp only [hp', decide_false, Bool.false_eq_true, if_false]
          cases n1 : (n == ([73, 110, 116] : List UInt8)) with
          | true =>
            simp only [if_true, Out.andThenB]
            exact DV_leaf 2 [51] (by simp) c2
          | false =>
          cases n2 : (n == ([70, 108, 111, 97, 116] : List UInt8)) with
          | true =>
            simp only [if_true, Bool.false_eq_true, if_false, Out.andThenB]
            exact DV_leaf 3 [49, 46, 53] (by simp) c2
          | false =>
          cases n3 : (n == ([66, 111, 111, 108, 101, 97, 110] : List UInt8)) with
          | true =>
            obtain ⟨y, i3, h3, e3, hy, c3⟩ := dr_Pick h2 [[116, 114, 117, 101], [102, 97, 108, 115, 101]] (by decide) (by decide) c2
            simp only [List.map_cons, List.map_nil, S1] at e3
            simp only [if_true, Bool.false_eq_true, if_false, e3, Out.bindR_ret, Out.andThenB, List.getD_cons_zero, List.getD_cons_succ, DC.bb_b, DC.ii_i, DC.ll_sl, DC.ss_s]
            refine DV_leaf 5 y ?_ c3
            simp only [List.mem_cons, List.not_mem_nil, or_false] at hy
            rcases hy with rfl | rfl <;> simp <;> omega
          | false =>
          cases n4 : (n == ([67, 111, 108, 111, 114] : List UInt8)) with
          | true =>
            obtain ⟨y, i3, h3, e3, hy, c3⟩ := dr_Pick h2 [[82, 69, 68], [66, 76, 85, 69], [71, 82, 69, 69, 78]] (by decide) (by decide) c2
            simp only [List.map_cons, List.map_nil, S1] at e3
            simp only [if_true, Bool.false_eq_true, if_false, e3, Out.bindR_ret, Out.andThenB, List.getD_cons_zero, List.getD_cons_succ, DC.bb_b, DC.ii_i, DC.ll_sl, DC.ss_s]
            refine DV_leaf 6 y ?_ c3
            simp only [List.mem_cons, List.not_mem_nil, or_false] at hy
            rcases hy with rfl | rfl | rfl <;> simp <;> omega
          | false =>
          cases n5 : (n == ([70, 105, 110, 100] : List UInt8)) with
          | false =>
            simp only [Bool.false_eq_true, if_false, Out.andThenB, List.getD_cons_zero, List.getD_cons_succ, DC.bb_b, DC.ii_i, DC.ll_sl, DC.ss_s]
            exact DV_leaf 4 [120] (by simp) c2
          | true =>
            simp only [if_true, Bool.false_eq_true, if_false]
            refine then_one (P := fun o => DV (3 * (B + 1) + 100) b (Out.andThenB o 2 _)) (Q := fun s : Bool × Int × Int => Cu b s.2.1 ∧ (s.1 = true → 0 < D)) (fun s => [.i D, .b s.1, .sl b, .i s.2.1, .i s.2.2, .i 0, .s [], .i 8, .s [], .sl [[DC.i (4 : Int), DC.s ([116] : List UInt8), DC.sl [], DC.sl []]], .sl [[DC.s ([116, 101, 120, 116] : List UInt8)]]]) ?_ ?_
            · by_cases hd : D > 0
              · obtain ⟨o3, i3, h3, e3, c3⟩ := dr_Once h2 2 (by decide) (by decide) c2
                exact ⟨(o3, i3, h3), by simp only [hd, decide_true, if_true, e3, Out.bindR_ret, List.getD_cons_zero, List.getD_cons_succ, DC.bb_b, DC.ii_i, DC.ll_sl, DC.ss_s], c3, fun _ => hd⟩
              · exact ⟨(false, i2, h2), by simp only [hd, decide_false, Bool.false_eq_true, if_false], c2, fun h => by cases h⟩
            · rintro ⟨o3, i3, h3⟩ ⟨c3, d3⟩
              have c3 : Cu b i3 := c3
              have d3 : o3 = true → 0 < D := d3
              simp only [List.getD_cons_zero, List.getD_cons_succ, DC.bb_b, DC.ii_i, DC.ll_sl, DC.ss_s]
              refine then_one (P := fun o => DV (3 * (B + 1) + 100) b (Out.andThenB o 2 _)) (Q := fun s : List TValue × List (List UInt8) × Int × Int => Cu b s.2.2.1 ∧ s.1.length ≤ 2 ∧ s.2.1.length ≤ 2 ∧ (∀ x ∈ s.1, wtL x.enc ≤ B) ∧ ∀ x ∈ s.2.1, x.length ≤ 5)
                (fun s => [.sl b, .i s.2.2.1, .i s.2.2.2, .i 0, .s [], .i 8, .s [], .sl (s.1.map TValue.enc), .sl (s.2.1.map S1)]) ?_ ?_
              · have hv0 : wtL (TValue.enc ⟨4, [116], [], []⟩) ≤ B := by
                  rw [wsum_Value]
                  simp only [List.map_nil, DC.wt, wtV, List.length_cons, List.length_nil]
                  omega
                cases o3 with
                | true =>
                  have hd := d3 rfl
                  obtain ⟨v, i4, h4, e4, hvB, c4⟩ := hv [70, 105, 110, 100] [] (D - 1) rfl (.inr ⟨rfl, hd⟩) i3 h3 c3
                  refine ⟨([⟨4, [116], [], []⟩, v], [[116, 101, 120, 116], [109, 111, 114, 101]], i4, h4), ?_, c4, by simp, by simp, fun x hx => ?_, fun x hx => ?_⟩
                  · have hl : 1 + 1 < LIM := by unfold LIM; omega
                    simp only [if_true, List.length_cons, List.length_nil, Nat.zero_add, hl, hwd, e4, Out.bindR_ret, List.getD_cons_zero, List.getD_cons_succ, DC.bb_b, DC.ii_i, DC.ll_sl, DC.ss_s, List.map_cons, List.map_nil, TValue.enc_eq, S1, List.cons_append, List.nil_append]
                  · simp only [List.mem_cons, List.not_mem_nil, or_false] at hx
                    rcases hx with rfl | rfl
                    · exact hv0
                    · exact hvB
                  · simp only [List.mem_cons, List.not_mem_nil, or_false] at hx
                    rcases hx with rfl | rfl <;> simp
                | false =>
                  refine ⟨([⟨4, [116], [], []⟩], [[116, 101, 120, 116]], i3, h3), ?_, c3, by simp, by simp, fun x hx => ?_, fun x hx => ?_⟩
                  · simp only [Bool.false_eq_true, if_false, List.map_cons, List.map_nil, TValue.enc_eq, S1]
                  · rw [List.mem_singleton.1 hx]; exact hv0
                  · rw [List.mem_singleton.1 hx]; simp
              · rintro ⟨its, ns, i4, h4⟩ ⟨c4, r1, r2, r3, r4⟩
                have c4 : Cu b i4 := c4
                have r1 : its.length ≤ 2 := r1
                have r2 : ns.length ≤ 2 := r2
                have r3 : ∀ x ∈ its, wtL x.enc ≤ B := r3
                have r4 : ∀ x ∈ ns, x.length ≤ 5 := r4
                obtain ⟨o5, i5, h5, e5, c5⟩ := dr_Once h4 3 (by decide) (by decide) c4
                simp only [List.getD_cons_zero, List.getD_cons_succ, DC.bb_b, DC.ii_i, DC.ll_sl, DC.ss_s, e5, Out.bindR_ret]
                refine then_one (P := fun o => DV (3 * (B + 1) + 100) b (Out.andThenB o 2 _)) (Q := fun s : List TValue × List (List UInt8) × Int × Int => Cu b s.2.2.1 ∧ s.1.length ≤ 3 ∧ s.2.1.length ≤ 3 ∧ (∀ x ∈ s.1, wtL x.enc ≤ B) ∧ ∀ x ∈ s.2.1, x.length ≤ 5)
                  (fun s => [.sl b, .i s.2.2.1, .i s.2.2.2, .i 0, .s [], .i 8, .s [], .sl (s.1.map TValue.enc), .sl (s.2.1.map S1)]) ?_ ?_
                · cases o5 with
                  | true =>
                    obtain ⟨y, i6, h6, e6, hy, c6⟩ := dr_Pick h5 [[115, 105, 122, 101], [110, 111, 110, 101], [116, 101, 120, 116]] (by decide) (by decide) c5
                    simp only [List.map_cons, List.map_nil, S1] at e6
                    refine ⟨(its ++ [⟨2, [50], [], []⟩], ns ++ [y], i6, h6), ?_, c6, ?_, ?_, fun x hx => ?_, fun x hx => ?_⟩
                    · have hl1 : ns.length + 1 < LIM := by unfold LIM; omega
                      have hl2 : its.length + 1 < LIM := by unfold LIM; omega
                      simp only [if_true, e6, Out.bindR_ret, List.getD_cons_zero, List.getD_cons_succ, DC.bb_b, DC.ii_i, DC.ll_sl, DC.ss_s, List.length_map, List.length_cons, List.length_nil, Nat.zero_add, hl1, hl2, List.map_append, List.map_cons, List.map_nil, S1]
                      simp only [TValue.enc_eq ⟨2, [50], [], []⟩, List.map_nil]
                    · show (its ++ [_]).length ≤ 3
                      rw [List.length_append]; simp only [List.length_cons, List.length_nil]; omega
                    · show (ns ++ [_]).length ≤ 3
                      rw [List.length_append]; simp only [List.length_cons, List.length_nil]; omega
                    · rcases List.mem_append.1 hx with hx | hx
                      · exact r3 x hx
                      · rw [List.mem_singleton.1 hx, wsum_Value]
                        simp only [List.map_nil, DC.wt, wtV, List.length_cons, List.length_nil]
                        omega
                    · rcases List.mem_append.1 hx with hx | hx
                      · exact r4 x hx
                      · rw [List.mem_singleton.1 hx]
                        simp only [List.mem_cons, List.not_mem_nil, or_false] at hy
                        rcases hy with rfl | rfl | rfl <;> simp
                  | false => exact ⟨(its, ns, i5, h5), by simp only [Bool.false_eq_true, if_false], c5, Nat.le_succ_of_le r1, Nat.le_succ_of_le r2, r3, r4⟩
                · rintro ⟨its', ns', i6, h6⟩ ⟨c6, q1, q2, q3, q4⟩
                  have c6 : Cu b i6 := c6
                  have q1 : its'.length ≤ 3 := q1
                  have q2 : ns'.length ≤ 3 := q2
                  simp only [Out.andThenB, List.getD_cons_zero, List.getD_cons_succ, DC.bb_b, DC.ii_i, DC.ll_sl, DC.ss_s]
                  refine ⟨⟨8, [], its', ns'⟩, i6, h6, rfl, ?_, c6⟩
                  rw [wsum_Value]
                  have w1 := items_wt its' B q3
                  have w2 := names_wt ns' 5 q4
                  have w3 : its'.length * (B + 1) ≤ 3 * (B + 1) := Nat.mul_le_mul_right _ q1
                  simp only [List.length_nil]
                  omega
theorem dr_For {b : List (List DC)} : ∀ (m : Nat) (n w : List UInt8) (D i h : Int), D ≤ 3 → -90 + (w.length : Int) ≤ D → w.length ≤ 3 → D.toNat + w.length ≤ m → Cu b i → DV (BF (m + 1)) b (r_spec_l19For [.s n, .s w, .i D, .sl b, .i i, .i h]) := by
  intro m
  induction m with
  | zero =>
    intro n w D i h hD hD2 hw hm c
    exact for_step (B := BF 0) (by decide) h (by omega) hD (by omega) c fun n' w' D' hD' hlt => by omega
  | succ m ih =>
    intro n w D i h hD hD2 hw hm c
    refine for_step (B := BF (m + 1)) (BF_ge _) h (by omega) hD (by omega) c fun n' w' D' hD' hlt i' h' c' => ?_
    subst hD'
    rcases hlt with hlt | ⟨rfl, hlt⟩
    · exact ih n' w' (D - 1) i' h' (by omega) (by omega) (by omega) (by omega) c'
    · exact ih n' [] (D - 1) i' h' (by omega) (by simp only [List.length_nil]; omega) (by simp) (by simp only [List.length_nil]; omega) c'
theorem new_loop (b : List (List DC)) (hb : b.length ≤ 1048576) : ∀ (m i : Nat) (h : Int), 4000 - i ≤ m → i ≤ 4000 → i ≤ b.length → ∃ h', Loop E_spec_l01NewL1 [.sl b, .i h, .i (i : Int)] = .ex 0 [.sl b, .i h'] := by
  have stop : ∀ (i : Nat) (h : Int), ¬ ((i : Int) < (b.length : Int) ∧ (i : Int) < 4000) → ∃ h', Loop E_spec_l01NewL1 [.sl b, .i h, .i (i : Int)] = .ex 0 [.sl b, .i h'] := by
    intro i h hn
    refine ⟨h, Loop_ex ?_⟩
    by_cases h1 : (i : Int) < (b.length : Int)
    · have h2 : ¬ (i : Int) < 4000 := fun h2 => hn ⟨h1, h2⟩
      simp only [E_spec_l01NewL1, List.getD_cons_zero, List.getD_cons_succ, DC.ii_i, DC.ll_sl, h1, decide_true, if_true, h2, decide_false, Bool.false_eq_true, if_false, Out.andThen, DC.bb_b]
    · simp only [E_spec_l01NewL1, List.getD_cons_zero, List.getD_cons_succ, DC.ii_i, DC.ll_sl, h1, decide_false, Bool.false_eq_true, if_false, Out.andThen, DC.bb_b]
  intro m
  induction m with
  | zero => intro i h hm hi hl; exact stop i h (by omega)
  | succ m ih =>
    intro i h hm hi hl
    by_cases hc : (i : Int) < (b.length : Int) ∧ (i : Int) < 4000
    · obtain ⟨h1, h2⟩ := hc
      have hw : IntKind.i64.wrap ((i : Int) + 1) = ((i + 1 : Nat) : Int) := by rw [IntKind.wrap_i64]; omega
      have hn : (0 : Int) ≤ (i : Int) := by omega
      obtain ⟨h', e⟩ := ih (i + 1) _ (by omega) (by omega) (by omega)
      refine ⟨h', (Loop_norm ?_).trans e⟩
      simp only [E_spec_l01NewL1, List.getD_cons_zero, List.getD_cons_succ, DC.ii_i, DC.ll_sl, h1, h2, hn, decide_true, if_true, Out.andThen, Out.andThenB, DC.bb_b, and_self, hw]
      rfl
    · exact stop i h hc
theorem dr_New (b : List (List DC)) (hb : b.length ≤ 1048576) : ∃ h', rb_spec_l01New [.sl b] = .ret [.sl b, .i 0, .i h'] := by
  obtain ⟨h', e⟩ := new_loop b hb 4000 0 (IntKind.i64.wrap ((94701 : Int) + (b.length : Int))) (by omega) (by omega) (by omega)
  have e' : Loop E_spec_l01NewL1 [.sl b, .i (IntKind.i64.wrap ((94701 : Int) + (b.length : Int))), .i (0 : Int)] = .ex 0 [.sl b, .i h'] := e
  refine ⟨h', ?_⟩
  rw [eqb_spec_l01New]
  simp only [E_spec_l01New, List.getD_cons_zero, List.getD_cons_succ, DC.ii_i, DC.ll_sl, e', Out.andThenB, if_true]
theorem dr_Fitting (b : List (List DC)) (hb : b.length ≤ 1048576) : ∃ (n w : List UInt8) (v : TValue), r_spec_DrawFitting [.sl b] = .ret [.s n, .s w, .i v.kind, .s v.text, .sl (v.items.map TValue.enc), .sl (v.names.map S1)] ∧ n.length ≤ 10 ∧ w.length ≤ 3 ∧ wtL v.enc ≤ 400000 := by
  obtain ⟨h0, e0⟩ := dr_New b hb
  have c0 : Cu b 0 := ⟨hb, by omega, by omega⟩
  obtain ⟨n, i1, h1, e1, hn, c1⟩ := dr_Pick h0 [[73, 110, 116], [70, 108, 111, 97, 116], [83, 116, 114, 105, 110, 103], [66, 111, 111, 108, 101, 97, 110], [73, 68], [67, 111, 108, 111, 114], [70, 105, 110, 100], [68, 97, 116, 101]] (by decide) (by decide) c0
  obtain ⟨w, i2, h2, e2, hw, c2⟩ := dr_Pick h1 [[], [33], [93], [33, 93, 33]] (by decide) (by decide) c1
  simp only [List.map_cons, List.map_nil, S1] at e1 e2
  have hwl : w.length ≤ 3 := by
    simp only [List.mem_cons, List.not_mem_nil, or_false] at hw
    rcases hw with rfl | rfl | rfl | rfl <;> simp
  have hnl : n.length ≤ 10 := by
    simp only [List.mem_cons, List.not_mem_nil, or_false] at hn
    rcases hn with rfl | rfl | rfl | rfl | rfl | rfl | rfl | rfl <;> simp
  obtain ⟨v, i3, h3, e3, hv, c3⟩ := dr_For 5 n w 2 i2 h2 (by decide) (by omega) hwl (by have : (2 : Int).toNat = 2 := rfl; omega) c2
  refine ⟨n, w, v, ?_, hnl, hwl, Nat.le_trans hv (by decide)⟩
  rw [eq_spec_DrawFitting]
  have hL : 0 < LIM := by decide
  simp only [E_spec_DrawFitting, List.getD_cons_zero, List.getD_cons_succ, DC.ii_i, DC.ll_sl, DC.ss_s, e0, bsz, hL, if_true, retD, e1, e2, e3, Out.bindR_ret]
def findT : TDef := ⟨6, false, [], [70, 105, 110, 100], [], [], [⟨[116, 101, 120, 116], [], ⟨[83, 116, 114, 105, 110, 103], [33]⟩, false, ⟨0, [], [], []⟩, []⟩, ⟨[115, 105, 122, 101], [], ⟨[73, 110, 116], []⟩, true, ⟨2, [53], [], []⟩, []⟩, ⟨[99, 111, 108, 111, 114, 115], [], ⟨[67, 111, 108, 111, 114], [33, 93]⟩, false, ⟨0, [], [], []⟩, []⟩, ⟨[109, 111, 114, 101], [], ⟨[70, 105, 110, 100], []⟩, false, ⟨0, [], [], []⟩, []⟩], [], [], false, []⟩
def libT : List TDef := [⟨4, false, [], [65, 110, 121], [[80, 111, 115, 116], [85, 115, 101, 114]], [], [], [], [], false, []⟩, ⟨5, false, [], [67, 111, 108, 111, 114], [], [], [], [⟨[66, 76, 85, 69], [], []⟩, ⟨[82, 69, 68], [], []⟩], [], false, []⟩, ⟨1, false, [], [68, 97, 116, 101], [], [], [], [], [], false, []⟩, ⟨6, false, [], [70, 105, 110, 100], [], [], [⟨[116, 101, 120, 116], [], ⟨[83, 116, 114, 105, 110, 103], [33]⟩, false, ⟨0, [], [], []⟩, []⟩, ⟨[115, 105, 122, 101], [], ⟨[73, 110, 116], []⟩, true, ⟨2, [53], [], []⟩, []⟩, ⟨[99, 111, 108, 111, 114, 115], [], ⟨[67, 111, 108, 111, 114], [33, 93]⟩, false, ⟨0, [], [], []⟩, []⟩, ⟨[109, 111, 114, 101], [], ⟨[70, 105, 110, 100], []⟩, false, ⟨0, [], [], []⟩, []⟩], [], [], false, []⟩, ⟨2, false, [], [77, 117, 116, 97, 116, 105, 111, 110], [], [⟨[114, 101, 110, 97, 109, 101], [], [⟨[105, 100], [], ⟨[73, 68], [33]⟩, false, ⟨0, [], [], []⟩, []⟩, ⟨[110, 97, 109, 101], [], ⟨[83, 116, 114, 105, 110, 103], []⟩, false, ⟨0, [], [], []⟩, []⟩], ⟨[85, 115, 101, 114], []⟩, []⟩], [], [], [], false, []⟩, ⟨3, false, [], [78, 97, 109, 101, 100], [[78, 111, 100, 101]], [⟨[105, 100], [], [], ⟨[73, 68], [33]⟩, []⟩, ⟨[110, 97, 109, 101], [], [], ⟨[83, 116, 114, 105, 110, 103], []⟩, []⟩], [], [], [], false, []⟩, ⟨3, false, [], [78, 111, 100, 101], [], [⟨[105, 100], [], [], ⟨[73, 68], [33]⟩, []⟩], [], [], [], false, []⟩, ⟨2, false, [], [80, 111, 115, 116], [[78, 111, 100, 101]], [⟨[105, 100], [], [], ⟨[73, 68], [33]⟩, []⟩, ⟨[116, 105, 116, 108, 101], [], [], ⟨[83, 116, 114, 105, 110, 103], [33]⟩, []⟩, ⟨[97, 117, 116, 104, 111, 114], [], [], ⟨[85, 115, 101, 114], []⟩, []⟩, ⟨[97, 110, 121], [], [], ⟨[65, 110, 121], [93]⟩, []⟩], [], [], [], false, []⟩, ⟨2, false, [], [81, 117, 101, 114, 121], [], [⟨[110, 111, 100, 101], [], [⟨[105, 100], [], ⟨[73, 68], [33]⟩, false, ⟨0, [], [], []⟩, []⟩], ⟨[78, 111, 100, 101], []⟩, []⟩, ⟨[117, 115, 101, 114], [], [⟨[105, 100], [], ⟨[73, 68], []⟩, false, ⟨0, [], [], []⟩, []⟩], ⟨[85, 115, 101, 114], []⟩, []⟩, ⟨[102, 105, 110, 100], [], [⟨[98, 121], [], ⟨[70, 105, 110, 100], [33]⟩, false, ⟨0, [], [], []⟩, []⟩, ⟨[111, 110], [], ⟨[68, 97, 116, 101], []⟩, false, ⟨0, [], [], []⟩, []⟩], ⟨[65, 110, 121], [33, 93]⟩, []⟩, ⟨[99, 111, 108, 111, 114, 115], [], [], ⟨[67, 111, 108, 111, 114], [93]⟩, []⟩, ⟨[110, 97, 109, 101, 100], [], [], ⟨[78, 97, 109, 101, 100], []⟩, []⟩], [], [], [], false, []⟩, ⟨2, false, [], [85, 115, 101, 114], [[78, 97, 109, 101, 100], [78, 111, 100, 101]], [⟨[105, 100], [], [], ⟨[73, 68], [33]⟩, []⟩, ⟨[110, 97, 109, 101], [], [], ⟨[83, 116, 114, 105, 110, 103], []⟩, []⟩, ⟨[112, 111, 115, 116, 115], [], [⟨[102, 105, 114, 115, 116], [], ⟨[73, 110, 116], []⟩, true, ⟨2, [49, 48], [], []⟩, []⟩, ⟨[97, 102, 116, 101, 114], [], ⟨[73, 68], []⟩, false, ⟨0, [], [], []⟩, []⟩], ⟨[80, 111, 115, 116], [33, 93, 33]⟩, []⟩, ⟨[99, 111, 108, 111, 114], [], [], ⟨[67, 111, 108, 111, 114], []⟩, [⟨[100, 101, 112, 114, 101, 99, 97, 116, 101, 100], []⟩]⟩, ⟨[102, 114, 105, 101, 110, 100], [], [], ⟨[85, 115, 101, 114], []⟩, []⟩], [], [], [], false, []⟩]
def libD : List TDef := [⟨7, false, [], [109, 97, 110, 121], [[70, 73, 69, 76, 68]], [], [], [], [], true, []⟩, ⟨7, false, [], [111, 110, 99, 101], [[70, 73, 69, 76, 68], [81, 85, 69, 82, 89]], [], [⟨[107, 101, 121], [], ⟨[83, 116, 114, 105, 110, 103], []⟩, false, ⟨0, [], [], []⟩, []⟩, ⟨[100, 101, 101, 112], [], ⟨[73, 110, 116], [33]⟩, true, ⟨2, [49], [], []⟩, []⟩], [], [], false, []⟩]
def libR : List TRoot := [⟨1, [81, 117, 101, 114, 121]⟩, ⟨2, [77, 117, 116, 97, 116, 105, 111, 110]⟩]
set_option maxHeartbeats 0 in
theorem lib_run : evG evL 5000 81 [] = .ret [.sl (libT.map TDef.enc), .sl (libD.map TDef.enc), .sl (libR.map TRoot.enc)] := by kernel_rfl
theorem lib_ok : r_spec_DrawLibrary [] = .ret [.sl (libT.map TDef.enc), .sl (libD.map TDef.enc), .sl (libR.map TRoot.enc)] := cl_spec_DrawLibrary lib_run
theorem lib_len : libT.length = 10 := rfl
theorem lib_wt : DC.wt (.sl (libT.map TDef.enc)) ≤ 1048576 := Nat.le_of_ble_eq_true (by kernel_rfl)
theorem lib_at : typeAt libT [70, 105, 110, 100] = 3 := by kernel_rfl
theorem lib_get : (libT.map TDef.enc).getD 3 [] = TDef.enc findT := rfl
theorem find_wt : DC.wt (.sl (findT.inputs.map TInDef.enc)) ≤ 1048576 := Nat.le_of_ble_eq_true (by kernel_rfl)
theorem find_at : placeOf (fun d : TInDef => d.name == ([116, 101, 120, 116] : List UInt8)) findT.inputs = 0 := by kernel_rfl
theorem find_reqs : reqs findT.inputs = [[116, 101, 120, 116]] := by kernel_rfl
theorem same_one : r_laws_sameTexts [.sl [[.s [116, 101, 120, 116]]], .sl [[.s [116, 101, 120, 116]]]] = .ret [.b true] := by
  rw [eq_laws_sameTexts]
  have h0 : Loop E_laws_sameTextsL1 [.sl [[.s [116, 101, 120, 116]]], .sl [[.s [116, 101, 120, 116]]], .i (0 : Int)] = .ex 0 [] := by
    refine (Loop_norm (v' := [.sl [[.s [116, 101, 120, 116]]], .sl [[.s [116, 101, 120, 116]]], .i (1 : Int)]) (by kernel_rfl)).trans (Loop_ex (by kernel_rfl))
  simp only [E_laws_sameTexts, List.getD_cons_zero, List.getD_cons_succ, DC.ll_sl, h0, Out.andThenB, if_true, List.length_cons, List.length_nil, bne_self_eq_false, Bool.false_eq_true, if_false]
section
variable {n w : List UInt8}
theorem fits_null (hw : w.length ≤ 1048576) : r_impl_Fits [.sl (libT.map TDef.enc), .sl (libD.map TDef.enc), .sl (libR.map TRoot.enc), .i (5 : Int), .s ([110, 117, 108, 108] : List UInt8), .sl [], .sl [], .s n, .s w] = .ret [.b (!need w)] := by
  have hn2 := impl_Needed n w hw
  have hnull := impl_isNull 5 [110, 117, 108, 108] [] []
  rw [eq_impl_Fits]
  simp [E_impl_Fits, DC.ii_i, DC.ss_s, DC.ll_sl, DC.bb_b, Out.andThenB, hnull, hn2]
theorem fits_var (hw : w.length ≤ 1048576) : r_impl_Fits [.sl (libT.map TDef.enc), .sl (libD.map TDef.enc), .sl (libR.map TRoot.enc), .i (1 : Int), .s ([120] : List UInt8), .sl [], .sl [], .s n, .s w] = .ret [.b true] := by
  rw [eq_impl_Fits]
  simp [E_impl_Fits, DC.ii_i, Out.andThenB]
theorem lst_snoc (w : List UInt8) (a c : UInt8) : lst (w ++ [a]) c = (a == c) := by
  unfold lst
  simp
theorem fw_two (w : List UInt8) : fw (w ++ [93, 33]) = w ++ [93] := by
  have e : w ++ [93, 33] = (w ++ [93]) ++ [33] := by simp
  have hl : (w ++ [93] ++ [33]).length - 1 = (w ++ [93]).length := by simp
  unfold fw cutL
  rw [e, lst_snoc, if_pos (by decide), hl]
  exact List.take_left
theorem inr_two (w : List UInt8) : inr (w ++ [93]) = w := by
  have h : fw (w ++ [93]) = w ++ [93] := by
    unfold fw cutL
    rw [lst_snoc, if_neg (by decide)]
  unfold inr
  rw [h, lst_snoc, if_pos (by decide)]
  simp
theorem fits_list (v : TValue) (hw : w.length ≤ 1000) {g : Bool} (hv : sameF libT (libD.map TDef.enc) (libR.map TRoot.enc) v n w) (hg : goodF libT (libD.map TDef.enc) (libR.map TRoot.enc) v n w = g) :
    r_impl_Fits [.sl (libT.map TDef.enc), .sl (libD.map TDef.enc), .sl (libR.map TRoot.enc), .i (7 : Int), .s [], .sl [v.enc, v.enc], .sl [], .s n, .s (w ++ [93, 33])] = .ret [.b g] := by
  have hlen : (w ++ [93, 33]).length ≤ 1048576 := by rw [List.length_append]; simp only [List.length_cons, List.length_nil]; omega
  have hlen1 : (w ++ [93]).length ≤ 1048576 := by rw [List.length_append]; simp only [List.length_cons, List.length_nil]; omega
  have hnull := impl_isNull 7 [] [v.enc, v.enc] []
  have hfe := impl_Fewer n (w ++ [93, 33]) hlen
  rw [fw_two] at hfe
  have hhs := hs_one (w ++ [93]) 93 hlen1
  rw [lst_snoc] at hhs
  have hit := items_impl (s := libT) (sd := libD.map TDef.enc) (sr := libR.map TRoot.enc) [v, v] n (w ++ [93]) (by simp) hlen1 (fun x hx => by
    rw [inr_two]
    simp only [List.mem_cons, List.not_mem_nil, or_false, or_self] at hx
    rw [hx]; exact hv)
  rw [inr_two] at hit
  simp only [List.map_cons, List.map_nil, List.any_cons, List.any_nil, hg, Bool.or_false, Bool.or_self] at hit
  rw [eq_impl_Fits]
  simp [E_impl_Fits, DC.ii_i, DC.ss_s, DC.ll_sl, DC.bb_b, Out.andThenB, hnull, hfe, eq_strings_HasSuffix, E_strings_HasSuffix, hhs, hit]
end
theorem wfl_cons {ty : Nat → Option TI} {t : CT} {ts : List CT} {x : List DC} (h : WfL ty (t :: ts) x) : ∃ c xs, x = c :: xs ∧ WfC ty t c ∧ WfL ty ts xs := by
  cases h with
  | cons t ts x xs h1 h2 => exact ⟨x, xs, rfl, h1, h2⟩
theorem wfl_nil {ty : Nat → Option TI} {x : List DC} (h : WfL ty [] x) : x = [] := by cases h; rfl
theorem big_ok (l : List (List DC)) : r_laws_big [.sl l] = .ret [.b (decide ((l.length : Int) > (1048576 : Int)))] := by
  rw [eq_laws_big]
  simp only [E_laws_big, List.getD_cons_zero, DC.ll_sl]
theorem law_FnFits (d : List DC) (hd : WfL cfg.ty [.sl 5] d) : r_laws_FnFits d = .ret [.b true] := by
  obtain ⟨c0, q0, rfl, v0, u0⟩ := wfl_cons hd
  have x0 := wfl_nil u0
  subst x0
  obtain ⟨l, rfl⟩ : ∃ l, c0 = .sl l := by cases v0 <;> exact ⟨_, rfl⟩
  rw [eq_laws_FnFits]
  simp only [E_laws_FnFits, List.getD_cons_zero, List.getD_cons_succ, DC.bb_b, DC.ii_i, DC.ss_s, DC.ll_sl, big_ok, Out.bindR_ret]
  by_cases hb : (l.length : Int) > 1048576
  · simp only [hb, decide_true, if_true]
  simp only [hb, decide_false, Bool.false_eq_true, if_false]
  obtain ⟨n, w, v, e1, hn, hw, hv⟩ := dr_Fitting l (by omega)
  have hf := fits_same (s := libT) (sd := libD.map TDef.enc) (sr := libR.map TRoot.enc) lib_wt v (by omega) n w (by omega)
  have hf0 := hf
  obtain ⟨f1, f2⟩ := hf0
  have k1 := fits_null (n := n) (w := w) (by omega)
  have k2 := impl_Needed n w (by omega)
  have k3 := fits_var (n := n) (w := w) (by omega)
  have k4 := fits_list (n := n) (w := w) v (by omega) hf rfl
  have k5 := spec_TypeAt libT (libD.map TDef.enc) (libR.map TRoot.enc) [70, 105, 110, 100] (by rw [lib_len]; omega)
  rw [lib_at] at k5
  have k6 := impl_InAt findT.inputs [116, 101, 120, 116] (by decide)
  rw [find_at] at k6
  have k7 := impl_RequiredIn findT.inputs find_wt
  rw [find_reqs] at k7
  simp only [List.map_cons, List.map_nil, S1] at k7
  simp only [dS] at f1 f2
  rw [TValue.enc_eq v] at k4
  generalize hg : goodF libT (libD.map TDef.enc) (libR.map TRoot.enc) v n w = g at f1 f2 k4
  simp only [lib_ok, e1, Out.bindR_ret, List.getD_cons_zero, List.getD_cons_succ, DC.bb_b, DC.ii_i, DC.ss_s, DC.ll_sl, f1, f2, beq_self_eq_true, Bool.not_true, Bool.false_eq_true, if_false]
  have hne : ((!need w) == need w) = false := by cases need w <;> rfl
  have hLIM : w.length + ([93, 33] : List UInt8).length < LIM := by simp only [List.length_cons, List.length_nil]; unfold LIM; omega
  have hg3 : (libT.map TDef.enc).getD (3 : Int).toNat [] = TDef.enc findT := lib_get
  have hc3 : (45 : Nat) = 45 ∧ (0 : Int) ≤ 3 ∧ (3 : Int) < ((libT.map TDef.enc).length : Int) := ⟨rfl, by decide, by rw [List.length_map, lib_len]; decide⟩
  simp only [k1, k2, k3, hne, Out.bindR_ret, List.getD_cons_zero, List.getD_cons_succ, DC.bb_b, DC.ii_i, DC.ss_s, DC.ll_sl, Bool.false_eq_true, if_false, Bool.not_true, Out.andThen, hLIM, if_true, k4, beq_self_eq_true, k5, hc3, and_self, hg3, TDef.enc_eq findT, k6, k7, same_one]
end Go.Proofs.QV
