import Derived.Test.YtjojjfebgfhcmaaGreatDoorMT7
import Derived.Test.YtjojjfebgfhcmaaGreatDoorMT6
import Derived.Lib.ValidLaws
import Derived.Lib.TrimUEq
/- Figures and numbers: what both implementations answer. -/
namespace Go.Proofs.QV
open Go
set_option linter.unusedVariables false
set_option linter.unusedSimpArgs false
set_option maxRecDepth 100000
theorem u8_eq (x : UInt8) (n : Nat) (hn : n < 256) : ((x.toNat : Int) == (n : Int)) = (x == UInt8.ofNat n) := by
  rw [Bool.eq_iff_iff, beq_iff_eq, beq_iff_eq, ← UInt8.toNat_inj]
  simp only [UInt8.toNat_ofNat', Nat.mod_eq_of_lt hn]
  omega
def isFig (b : UInt8) : Bool := decide (48 ≤ b.toNat) && decide (b.toNat ≤ 57)
def tw (l : List UInt8) : Nat := (l.takeWhile isFig).length
theorem tw_le (l : List UInt8) : tw l ≤ l.length := by
  have := (List.takeWhile_prefix isFig (l := l)).length_le
  exact this
theorem spec_l03Figure (b : UInt8) : r_spec_l03Figure [.i (b.toNat : Int)] = .ret [.b (isFig b)] := by
  rw [eq_spec_l03Figure]
  simp only [E_spec_l03Figure, zz0, zz1, zb, zi, isFig]
  by_cases h : 48 ≤ b.toNat
  · have h1 : (b.toNat : Int) ≥ 48 := by omega
    simp [h, h1]
    omega
  · have h1 : ¬ (b.toNat : Int) ≥ 48 := by omega
    simp [h, h1]
theorem impl_isFigure (b : UInt8) : r_impl_isFigure [.i (b.toNat : Int)] = .ret [.b (isFig b)] := by
  rw [eq_impl_isFigure]
  simp only [E_impl_isFigure, zz0, zz1, zb, zi, isFig]
  by_cases h : 48 ≤ b.toNat
  · have h1 : (b.toNat : Int) ≥ 48 := by omega
    simp [h, h1]
    omega
  · have h1 : ¬ (b.toNat : Int) ≥ 48 := by omega
    simp [h, h1]
theorem goF_run (f : UInt8 → Bool) : ∀ (l : List UInt8) (i : Nat), goF (fun x => !f x) (fun i _ => .ex 0 [.i (i : Int)]) (.ex 0 [.i ((i + l.length : Nat) : Int)]) i l = .ex 0 [.i ((i + (l.takeWhile f).length : Nat) : Int)]
  | [], i => rfl
  | x :: l, i => by
    rw [goF]
    cases h : f x with
    | false => simp [h]
    | true =>
      have := goF_run f l (i + 1)
      simp only [List.length_cons, List.takeWhile_cons, h, if_true, Bool.not_true, zf, if_false]
      rw [show i + (l.length + 1) = i + 1 + l.length by omega, this]
      congr 4
      omega
theorem spec_l03Run (s : List UInt8) (i : Nat) (hi : i ≤ s.length) (hs : s.length ≤ 1048576) : r_spec_l03Run [.s s, .i (i : Int)] = .ret [.i ((i + tw (s.drop i) : Nat) : Int)] := by
  rw [eq_spec_l03Run]
  simp only [E_spec_l03Run, zz0, zz1, zb, zi, zs]
  have := Loop_find (l := s) (st := fun i => [.s s, .i (i : Int)]) (p := fun x => !isFig x) (stop := fun i _ => .ex 0 [.i (i : Int)]) (fin := .ex 0 [.i (s.length : Int)]) (F := E_spec_l03RunL1) (fun i hi => ?step) (fun _ _ => Out.esc_ex _ _) ?fin (Out.esc_ex _ _) (s.length - i) i (by omega)
  · have e : ((s.length : Nat) : Int) = ((i + (s.drop i).length : Nat) : Int) := by rw [List.length_drop]; omega
    rw [e, goF_run isFig (s.drop i) i] at this
    rw [this]
    rfl
  case step =>
    have hg : s.getD i 0 = s[i] := by rw [List.getD_eq_getElem?_getD, List.getElem?_eq_getElem hi]; rfl
    simp only [E_spec_l03RunL1, zz0, zz1, zb, zi, zs, Int.toNat_natCast, hg, spec_l03Figure]
    cases hf : isFig s[i] <;> simp [hi, hf, wrap_succ hi (show s.length ≤ 9223372036854775807 by omega)]
  case fin => simp [E_spec_l03RunL1]
def sgn (s : List UInt8) : Nat := if s.head? = some 45 then 1 else 0
theorem sgn_le (s : List UInt8) : sgn s ≤ s.length := by
  unfold sgn
  split
  · rename_i h
    cases s with
    | nil => simp at h
    | cons _ _ => simp
  · omega
def intLen (s : List UInt8) : Nat := if tw (s.drop (sgn s)) = 0 then 0 else if s.getD (sgn s) 0 = 48 ∧ 1 < tw (s.drop (sgn s)) then 0 else sgn s + tw (s.drop (sgn s))
theorem spec_l03Int (s : List UInt8) (hs : s.length ≤ 1048576) : r_spec_l03Int [.s s] = .ret [.i (intLen s : Int)] := by
  rw [eq_spec_l03Int]
  cases s with
  | nil =>
    have hr : r_spec_l03Run [.s [], .i 0] = .ret [.i 0] := spec_l03Run [] 0 (by simp) (by simp)
    simp [E_spec_l03Int, hr, intLen, sgn, tw]
  | cons a l =>
    have hpos : decide (((a :: l).length : Int) > 0) = true := by simp
    have hpos' : 0 ≤ (0 : Int) ∧ (0 : Int) < ((a :: l).length : Int) := by simp
    have h0 : (a :: l).getD (0 : Int).toNat 0 = a := rfl
    by_cases h : a = 45
    · subst h
      have hsg : sgn (45 :: l) = 1 := rfl
      have hr : r_spec_l03Run [.s (45 :: l), .i 1] = .ret [.i ((1 + tw l : Nat) : Int)] := spec_l03Run (45 :: l) 1 (by simp) hs
      have h45 : (((45 : UInt8).toNat : Int) == 45) = true := rfl
      simp only [E_spec_l03Int, zz0, zz1, zb, zi, zs, hpos, hpos', if_true, and_self, decide_true, h0, h45, Out.andThen_norm, hr, zr]
      have hil : intLen (45 :: l) = if tw l = 0 then 0 else if l.getD 0 0 = 48 ∧ 1 < tw l then 0 else 1 + tw l := rfl
      have hle := tw_le l
      rw [hil]
      rcases Nat.eq_zero_or_pos (tw l) with ht | ht
      · simp [ht]
      · have hl : l ≠ [] := by
          intro e
          rw [e] at ht
          simp [tw] at ht
        have e1 : (((1 + tw l : Nat) : Int) == 1) = false := beq_eq_false_iff_ne.2 (by omega)
        have hlen : 0 < l.length := by omega
        have e2 : 0 ≤ (1 : Int) ∧ (1 : Int) < ((45 :: l).length : Int) := by rw [List.length_cons]; omega
        have e3 : (45 :: l).getD (1 : Int).toNat 0 = l.getD 0 0 := rfl
        have e4 := u8_eq (l.getD 0 0) 48 (by omega)
        have e4' : (((l.getD 0 0).toNat : Int) == 48) = (l.getD 0 0 == 48) := e4
        have e5 : IntKind.i64.wrap ((1 : Int) + 1) = 2 := by decide
        simp only [e1, e2, e3, e4', e5, zf, if_false, if_true, and_self, show ¬ tw l = 0 by omega]
        by_cases h48 : l.getD 0 0 = 48
        · have e6 : (l.getD 0 0 == 48) = true := beq_iff_eq.2 h48
          by_cases h1 : 1 < tw l
          · have e7 : decide (((1 + tw l : Nat) : Int) > 2) = true := decide_eq_true (by omega)
            simp only [e6, e7, h48, h1, beq_self_eq_true, if_true, Out.andThen_norm, zz0, zz1, zb, zi, and_self]
            rfl
          · have e7 : decide (((1 + tw l : Nat) : Int) > 2) = false := decide_eq_false (by omega)
            simp only [e6, e7, h48, h1, beq_self_eq_true, if_true, Out.andThen_norm, zz0, zz1, zb, zi, zf, if_false, and_false]
        · have e6 : (l.getD 0 0 == 48) = false := beq_eq_false_iff_ne.2 h48
          simp only [e6, h48, if_true, Out.andThen_norm, zz0, zz1, zb, zi, zf, if_false, false_and]
    · have hsg : sgn (a :: l) = 0 := by simp [sgn, h]
      have hr : r_spec_l03Run [.s (a :: l), .i 0] = .ret [.i ((tw (a :: l) : Nat) : Int)] := by
        have := spec_l03Run (a :: l) 0 (by simp) hs
        simpa using this
      have h45 : ((a.toNat : Int) == 45) = false := (u8_eq a 45 (by omega)).trans (beq_eq_false_iff_ne.2 h)
      simp only [E_spec_l03Int, zz0, zz1, zb, zi, zs, hpos, hpos', if_true, and_self, decide_true, h0, h45, Out.andThen_norm, hr, zr, zf, if_false]
      have hil : intLen (a :: l) = if tw (a :: l) = 0 then 0 else if a = 48 ∧ 1 < tw (a :: l) then 0 else tw (a :: l) := by
        unfold intLen
        rw [hsg]
        simp only [List.drop_zero, Nat.zero_add]
        rfl
      rw [hil]
      generalize tw (a :: l) = n
      rcases Nat.eq_zero_or_pos n with ht | ht
      · simp [ht]
      · have e1 : ((n : Int) == 0) = false := beq_eq_false_iff_ne.2 (by omega)
        have e4' : ((a.toNat : Int) == 48) = (a == 48) := u8_eq a 48 (by omega)
        have e5 : IntKind.i64.wrap ((0 : Int) + 1) = 1 := by decide
        simp only [e1, e4', e5, zf, if_false, if_true, show ¬ n = 0 by omega]
        by_cases h48 : a = 48
        · have e6 : (a == 48) = true := beq_iff_eq.2 h48
          by_cases h1 : 1 < n
          · have e7 : decide ((n : Int) > 1) = true := decide_eq_true (by omega)
            simp only [e6, e7, h48, h1, beq_self_eq_true, if_true, Out.andThen_norm, zz0, zz1, zb, zi, and_self]
            rfl
          · have e7 : decide ((n : Int) > 1) = false := decide_eq_false (by omega)
            simp only [e6, e7, h48, h1, beq_self_eq_true, if_true, Out.andThen_norm, zz0, zz1, zb, zi, zf, if_false, and_false]
        · have e6 : (a == 48) = false := beq_eq_false_iff_ne.2 h48
          simp only [e6, h48, if_true, Out.andThen_norm, zz0, zz1, zb, zi, zf, if_false, false_and]
def intOk (s : List UInt8) : Bool := decide (s.length ≤ 40) && (decide (0 < s.length) && (intLen s == s.length))
theorem spec_IntOk (s : List UInt8) (hs : s.length ≤ 1048576) : r_spec_IntOk [.s s] = .ret [.b (intOk s)] := by
  rw [eq_spec_IntOk]
  simp only [E_spec_IntOk, zz0, zz1, zb, zi, zs, spec_l03Int s hs, zr, intOk]
  by_cases h1 : s.length ≤ 40
  · have e1 : decide ((s.length : Int) ≤ 40) = true := decide_eq_true (by omega)
    by_cases h2 : 0 < s.length
    · have e2 : decide ((s.length : Int) > 0) = true := decide_eq_true (by omega)
      have e3 : ((intLen s : Int) == (s.length : Int)) = (intLen s == s.length) := by
        rw [Bool.eq_iff_iff, beq_iff_eq, beq_iff_eq]; omega
      simp only [e1, e2, e3, h1, h2, decide_true, Bool.true_and, if_true, Out.andThen_norm, zz0, zb]
    · have e2 : decide ((s.length : Int) > 0) = false := decide_eq_false (by omega)
      simp only [e1, e2, h1, h2, decide_true, decide_false, Bool.true_and, Bool.false_and, if_true, if_false, zf, Out.andThen_norm, zz0, zb]
  · have e1 : decide ((s.length : Int) ≤ 40) = false := decide_eq_false (by omega)
    simp only [e1, h1, decide_false, Bool.false_and, if_false, zf, Out.andThen_norm, zz0, zb]
def figs (l : List UInt8) : Bool := !(l == []) && l.all isFig
theorem impl_figures (s : List UInt8) (hs : s.length ≤ 1048576) : r_impl_figures [.s s] = .ret [.b (figs s)] := by
  rw [eq_impl_figures]
  simp only [E_impl_figures, zz0, zz1, zb, zi, zs]
  rw [show (0 : Int) = ((0 : Nat) : Int) from rfl, Loop_find0 (l := s) (st := fun i => [.s s, .i (s.length : Int), .i (i : Int)]) (p := fun x => !isFig x) (stop := fun i _ => .ret [.b false]) (fin := .ex 0 [.s s]) (fun i hi => ?step) (fun _ _ => Out.esc_ret _) ?fin (Out.esc_ex _ _), goF_any]
  · unfold figs
    cases h : s.any fun x => !isFig x with
    | true =>
      have : s.all isFig = false := by
        rw [List.any_eq_true] at h
        obtain ⟨x, hx, h⟩ := h
        rw [List.all_eq_false]
        exact ⟨x, hx, by simpa using h⟩
      simp [this]
    | false =>
      have : s.all isFig = true := by
        rw [List.any_eq_false] at h
        rw [List.all_eq_true]
        intro x hx
        simpa using h x hx
      simp [this]
  case step =>
    have hg : s.getD i 0 = s[i] := by rw [List.getD_eq_getElem?_getD, List.getElem?_eq_getElem hi]; rfl
    simp only [E_impl_figuresL1, zz0, zz1, zb, zi, zs, Int.toNat_natCast, hg, impl_isFigure]
    cases hf : isFig s[i] <;> simp [hi, hf, wrap_succ hi (show s.length ≤ 9223372036854775807 by omega)]
  case fin => simp [E_impl_figuresL1]
theorem takeWhile_all {f : UInt8 → Bool} : ∀ {l : List UInt8}, (l.takeWhile f).length = l.length ↔ l.all f = true
  | [] => by simp
  | x :: l => by
    have ih := takeWhile_all (f := f) (l := l)
    rw [List.takeWhile_cons, List.all_cons]
    cases f x <;> simp [ih]
theorem strings_TrimPrefix_sgn (s : List UInt8) : r_strings_TrimPrefix [.s s, .s [45]] = .ret [.s (s.drop (sgn s))] := by
  rw [eq_strings_TrimPrefix]
  simp only [E_strings_TrimPrefix, zz0, zz1, zs]
  rw [eq_internal_stringslite_TrimPrefix]
  simp only [E_internal_stringslite_TrimPrefix, zz0, zz1, zs]
  have h : r_internal_stringslite_HasPrefix [.s s, .s [45]] = .ret [.b (decide (sgn s = 1))] := by
    rw [eq_internal_stringslite_HasPrefix]
    simp only [E_internal_stringslite_HasPrefix, zz0, zz1, zs]
    cases s with
    | nil => simp [sgn]
    | cons a l =>
      by_cases h : a = 45
      · subst h
        have hl : (1 : Int) ≤ (l.length : Int) + 1 := by omega
        simp [sgn, hl]
      · have hl : (1 : Int) ≤ (l.length : Int) + 1 := by omega
        simp [sgn, h, hl]
  rw [h]
  unfold sgn
  cases s with
  | nil => simp
  | cons a l =>
    by_cases h : a = 45
    · subst h
      have hl : (1 : Int) ≤ (l.length : Int) + 1 := by omega
      simp [hl]
    · simp [h]
theorem intOk_eq (s : List UInt8) : intOk s = (decide (s.length ≤ 40) && (figs (s.drop (sgn s)) && (s.drop (sgn s) == [48] || !((s.drop (sgn s)).getD 0 0 == 48)))) := by
  unfold intOk
  congr 1
  have hle := sgn_le s
  have hlen : (s.drop (sgn s)).length = s.length - sgn s := List.length_drop
  have hg : s.getD (sgn s) 0 = (s.drop (sgn s)).getD 0 0 := by simp [List.getD_eq_getElem?_getD, List.getElem?_drop]
  have hall := takeWhile_all (f := isFig) (l := s.drop (sgn s))
  unfold intLen tw figs
  rw [hg]
  generalize s.drop (sgn s) = d at *
  have htl := (List.takeWhile_prefix isFig (l := d)).length_le
  generalize (d.takeWhile isFig).length = n at *
  rw [Bool.eq_iff_iff]
  simp only [Bool.and_eq_true, Bool.or_eq_true, decide_eq_true_eq, beq_iff_eq, Bool.not_eq_true', beq_eq_false_iff_ne, ne_eq]
  rw [← hall]
  cases d with
  | nil =>
    have : n = 0 := by simpa using htl
    subst this
    simp
    omega
  | cons a l =>
    simp only [List.length_cons] at hlen htl hall
    by_cases h0 : n = 0
    · simp [h0]; omega
    · by_cases h48 : a = 48
      · subst h48
        cases l with
        | nil =>
          have h1 : ¬ 1 < n := by simp at htl; omega
          simp only [List.length_cons, List.length_nil] at *
          simp [h0, h1]
          omega
        | cons b l =>
          simp only [List.length_cons] at *
          by_cases h1 : 1 < n
          · simp [h0, h1]
            omega
          · simp [h0, h1]
            omega
      · simp [h0, h48]; omega
theorem impl_IntOk (s : List UInt8) (hs : s.length ≤ 1048576) : r_impl_IntOk [.s s] = .ret [.b (intOk s)] := by
  rw [eq_impl_IntOk, intOk_eq]
  have hd : (s.drop (sgn s)).length ≤ 1048576 := by rw [List.length_drop]; omega
  simp only [E_impl_IntOk, zz0, zz1, zb, zi, zs, strings_TrimPrefix_sgn, zr, impl_figures _ hd]
  generalize s.drop (sgn s) = d
  by_cases h1 : s.length ≤ 40
  · have e1 : decide ((s.length : Int) ≤ 40) = true := decide_eq_true (by omega)
    cases hf : figs d with
    | false => simp [e1, h1, hf]
    | true =>
      cases d with
      | nil => simp [figs] at hf
      | cons a l =>
        have e3 : ((a.toNat : Int) != 48) = !(a == 48) := congrArg (!·) (u8_eq a 48 (by omega))
        have e4 : 0 ≤ (0 : Int) ∧ (0 : Int) < ((a :: l).length : Int) := by simp
        have e5 : (a :: l).getD (0 : Int).toNat 0 = a := rfl
        have e6 : (a :: l).getD 0 0 = a := rfl
        cases hb : ((a :: l) == [48]) <;> simp only [e1, h1, hf, e4, e5, e6, hb, e3, decide_true, if_true, if_false, zf, and_self, Out.andThen_norm, zz0, zb, Bool.true_and, Bool.true_or, Bool.false_or]
  · have e1 : decide ((s.length : Int) ≤ 40) = false := decide_eq_false (by omega)
    simp [e1, h1]
def isE (b : UInt8) : Bool := b == 101 || b == 69
def sg2 (p : List UInt8) : Nat := if p.head? = some 43 ∨ p.head? = some 45 then 1 else 0
def expOk : List UInt8 → Bool
  | [] => true
  | c :: r => isE c && figs (r.drop (sg2 r))
def pointOk : List UInt8 → Bool
  | [] => true
  | c :: r => if c = 46 then !(tw r == 0) && expOk (r.dropWhile isFig) else expOk (c :: r)
def floatS (s : List UInt8) : Bool := decide (s.length ≤ 40) && (!(intLen s == 0) && (!(intLen s == s.length) && pointOk (s.drop (intLen s))))
theorem drop_tw (l : List UInt8) : l.drop (tw l) = l.dropWhile isFig := by
  unfold tw
  induction l with
  | nil => rfl
  | cons x l ih =>
    rw [List.takeWhile_cons, List.dropWhile_cons]
    cases isFig x <;> simp [ih]
theorem andThen_split {o : Out} {K : List DC → Out} {R : Out} (n : Nat) (st : Nat → List DC) (g : Nat → Out) (hK : ∀ i, i ≤ n → K (st i) = g i)
    (ho : (∃ i, i ≤ n ∧ o = .norm (st i) ∧ R = g i) ∨ ∃ v, o = .ret v ∧ R = .ret v) : o.andThen K = R := by
  rcases ho with ⟨i, h1, rfl, rfl⟩ | ⟨v, rfl, rfl⟩
  · exact hK i h1
  · rfl
theorem figs_tw (p : List UInt8) : figs p = (!(tw p == 0) && tw p == p.length) := by
  unfold figs
  have h := takeWhile_all (f := isFig) (l := p)
  have e : (tw p == p.length) = p.all isFig := by
    rw [Bool.eq_iff_iff, beq_iff_eq]; exact h
  rw [e]
  cases p with
  | nil => rfl
  | cons a l =>
    cases ha : (a :: l).all isFig with
    | false => simp
    | true =>
      have := h.2 ha
      have : tw (a :: l) = l.length + 1 := this
      simp [this]
theorem intLen_le (s : List UInt8) : intLen s ≤ s.length := by
  have h1 := sgn_le s
  have h2 := tw_le (s.drop (sgn s))
  rw [List.length_drop] at h2
  unfold intLen
  split
  · omega
  · split <;> omega
theorem drop_cons {s : List UInt8} {i : Nat} {c : UInt8} {r : List UInt8} (h : s.drop i = c :: r) : i < s.length ∧ s.getD i 0 = c ∧ s.drop (i + 1) = r := by
  have hl : i < s.length := by
    rcases Nat.lt_or_ge i s.length with h' | h'
    · exact h'
    · rw [List.drop_eq_nil_of_le h'] at h; cases h
  rw [List.drop_eq_getElem_cons hl] at h
  injection h with h1 h2
  exact ⟨hl, by rw [List.getD_eq_getElem?_getD, List.getElem?_eq_getElem hl]; exact h1, h2⟩
theorem spec_FloatOk (s : List UInt8) (hs : s.length ≤ 1048576) : r_spec_FloatOk [.s s] = .ret [.b (floatS s)] := by
  rw [eq_spec_FloatOk]
  simp only [E_spec_FloatOk, zz0, zz1, zb, zi, zs, spec_l03Int s hs, zr, floatS]
  have hle := intLen_le s
  generalize intLen s = n at *
  rcases Nat.lt_or_ge 40 s.length with h40 | h40
  · have h40' : ¬ s.length ≤ 40 := by omega
    have e1 : decide ((s.length : Int) > 40) = true := decide_eq_true (by omega)
    simp [e1, h40']
  have e1 : decide ((s.length : Int) > 40) = false := decide_eq_false (by omega)
  by_cases h0 : n = 0
  · subst h0; simp [e1, h40]
  by_cases hn : n = s.length
  · have e2 : ((n : Int) == 0) = false := beq_eq_false_iff_ne.2 (by omega)
    have e3 : ((n : Int) == (s.length : Int)) = true := beq_iff_eq.2 (by omega)
    have e4 : (n == s.length) = true := beq_iff_eq.2 hn
    simp only [e1, e2, e3, e4, zf, if_false, if_true, Out.andThen_norm, zz0, zz1, zb, beq_self_eq_true, Bool.not_true, Bool.false_and, Bool.and_false]
  have e2 : ((n : Int) == 0) = false := beq_eq_false_iff_ne.2 (by omega)
  have e3 : ((n : Int) == (s.length : Int)) = false := beq_eq_false_iff_ne.2 (by omega)
  have e4 : 0 ≤ (n : Int) ∧ (n : Int) < (s.length : Int) := by omega
  have e5 : (n == 0) = false := beq_eq_false_iff_ne.2 h0
  have e6 : (n == s.length) = false := beq_eq_false_iff_ne.2 hn
  simp only [e1, e2, e3, e4, e5, e6, h40, zf, if_false, if_true, Out.andThen_norm, zz0, zz1, zb, zi, zs, and_self, Int.toNat_natCast, decide_true, Bool.not_false, Bool.true_and]
  refine andThen_split s.length (fun i => [.s s, .i (i : Int)]) (fun i => .ret [.b (expOk (s.drop i))]) (fun i hi => ?hK) ?ho
  case ho =>
    cases hd : s.drop n with
    | nil => have := List.length_drop (l := s) (i := n); rw [hd] at this; simp at this; omega
    | cons c r =>
      obtain ⟨hl, hg, hr⟩ := drop_cons hd
      rw [hg, wrap_succ hl (by omega)]
      have hc : ((c.toNat : Int) == 46) = (c == 46) := u8_eq c 46 (by omega)
      rw [hc, pointOk]
      by_cases h46 : c = 46
      · subst h46
        rw [spec_l03Run s (n + 1) (by omega) hs, hr]
        simp only [zr, zz0, zi, beq_self_eq_true, if_true]
        by_cases ht : tw r = 0
        · right
          exact ⟨[.b false], by simp only [ht, Nat.add_zero, beq_self_eq_true, if_true], by simp [ht]⟩
        · left
          have e : (((n + 1 + tw r : Nat) : Int) == ((n + 1 : Nat) : Int)) = false := beq_eq_false_iff_ne.2 (by omega)
          have hle2 := tw_le r
          have hrl : r.length = s.length - (n + 1) := by rw [← hr, List.length_drop]
          refine ⟨n + 1 + tw r, by omega, by rw [e]; rfl, ?_⟩
          rw [← List.drop_drop, hr, drop_tw]
          simp [ht]
      · have e : (c == 46) = false := beq_eq_false_iff_ne.2 h46
        left
        refine ⟨n, by omega, by rw [e]; rfl, ?_⟩
        rw [hd, if_neg h46]
  case hK =>
    have fin : ∀ (k : Nat) (p : List UInt8), k ≤ s.length → s.drop k = p → Out.andThen ((r_spec_l03Run [.s s, .i (k : Int)]).bindR fun r8 => if ((gi r8 0) == (k : Int)) = true then .ret [.b false] else .norm [.s s, .i (gi r8 0)])
        (fun v9 => .ret [.b ((gi v9 1) == ((gs v9 0).length : Int))]) = .ret [.b (figs p)] := by
      intro k p hk hp
      rw [spec_l03Run s k hk hs, hp, figs_tw]
      have hpl : p.length = s.length - k := by rw [← hp, List.length_drop]
      simp only [zr, zz0, zi]
      by_cases ht : tw p = 0
      · simp [ht]
      · have e : (((k + tw p : Nat) : Int) == (k : Int)) = false := beq_eq_false_iff_ne.2 (by omega)
        have e2 : (((k + tw p : Nat) : Int) == (s.length : Int)) = (tw p == p.length) := by
          rw [Bool.eq_iff_iff, beq_iff_eq, beq_iff_eq]; omega
        have e3 : (tw p == 0) = false := beq_eq_false_iff_ne.2 ht
        simp only [e, e2, e3, zf, if_false, Out.andThen_norm, zz0, zz1, zi, zs, Bool.not_false, Bool.true_and]
    cases hd : s.drop i with
    | nil =>
      have hge := List.drop_eq_nil_iff.1 hd
      have e1 : decide ((i : Int) < (s.length : Int)) = false := decide_eq_false (by omega)
      have e2 : ((i : Int) == (s.length : Int)) = true := beq_iff_eq.2 (by omega)
      simp only [zz0, zz1, zb, zi, zs, e1, zf, if_false, Out.andThen_norm, e2, expOk]
    | cons c r =>
      obtain ⟨hl, hg, hr⟩ := drop_cons hd
      have e1 : decide ((i : Int) < (s.length : Int)) = true := decide_eq_true (by omega)
      have e2 : 0 ≤ (i : Int) ∧ (i : Int) < (s.length : Int) := by omega
      have c1 : ((c.toNat : Int) == 101) = (c == 101) := u8_eq c 101 (by omega)
      have c2 : ((c.toNat : Int) == 69) = (c == 69) := u8_eq c 69 (by omega)
      have w1 := wrap_succ hl (show s.length ≤ 9223372036854775807 by omega)
      have first : ∀ K : List DC → Out, Out.andThen (if (c == 101) = true then .norm [.s s, .i (i : Int), .b true] else .norm [.s s, .i (i : Int), .b (c == 69)]) K = K [.s s, .i (i : Int), .b (isE c)] := by
        intro K
        unfold isE
        cases hc : (c == 101) <;> simp
      simp only [zz0, zz1, zb, zi, zs, e1, e2, if_true, and_self, decide_true, Int.toNat_natCast, hg, c1, c2, first, expOk]
      cases hE : isE c with
      | false =>
        have e3 : ((i : Int) == (s.length : Int)) = false := beq_eq_false_iff_ne.2 (by omega)
        simp only [zf, if_false, Out.andThen_norm, zz0, zz1, zb, zi, zs, e3, Bool.false_and]
      | true =>
        simp only [if_true, w1, Bool.true_and]
        cases r with
        | nil =>
          have hge := List.drop_eq_nil_iff.1 hr
          have e3 : decide (((i + 1 : Nat) : Int) < (s.length : Int)) = false := decide_eq_false (by omega)
          have := fin (i + 1) [] (by omega) hr
          simp only [e3, zf, if_false, Out.andThen_norm, zz0, zz1, zb, zi, zs]
          exact this
        | cons d q =>
          obtain ⟨hl2, hg2, hr2⟩ := drop_cons hr
          have e3 : decide (((i + 1 : Nat) : Int) < (s.length : Int)) = true := decide_eq_true (by omega)
          have e4 : 0 ≤ ((i + 1 : Nat) : Int) ∧ ((i + 1 : Nat) : Int) < (s.length : Int) := by omega
          have w2 := wrap_succ hl2 (show s.length ≤ 9223372036854775807 by omega)
          have d1 : ((d.toNat : Int) == 43) = (d == 43) := u8_eq d 43 (by omega)
          have d2 : ((d.toNat : Int) == 45) = (d == 45) := u8_eq d 45 (by omega)
          have second : ∀ K : List DC → Out, Out.andThen (if (d == 43) = true then .norm [.s s, .i ((i + 1 : Nat) : Int), .b true] else .norm [.s s, .i ((i + 1 : Nat) : Int), .b (d == 45)]) K = K [.s s, .i ((i + 1 : Nat) : Int), .b (d == 43 || d == 45)] := by
            intro K
            cases hc : (d == 43) <;> simp
          simp only [e3, e4, if_true, and_self, decide_true, Int.toNat_natCast, hg2, d1, d2, second, zz0, zz1, zb, zi, zs, w2]
          cases hs2 : (d == 43 || d == 45) with
          | true =>
            have hsg : sg2 (d :: q) = 1 := by
              unfold sg2
              rw [Bool.or_eq_true, beq_iff_eq, beq_iff_eq] at hs2
              simp [hs2]
            have := fin (i + 1 + 1) q (by omega) hr2
            simp only [if_true, Out.andThen_norm, zz0, zz1, zb, zi, zs, hsg, List.drop_succ_cons, List.drop_zero]
            exact this
          | false =>
            have hsg : sg2 (d :: q) = 0 := by
              unfold sg2
              rw [Bool.or_eq_false_iff, beq_eq_false_iff_ne, beq_eq_false_iff_ne] at hs2
              simp [hs2]
            have := fin (i + 1) (d :: q) (by omega) hr
            simp only [zf, if_false, Out.andThen_norm, zz0, zz1, zb, zi, zs, hsg, List.drop_zero]
            exact this
def notE (b : UInt8) : Bool := !isE b
def notP (b : UInt8) : Bool := !(b == 46)
theorem indexAny_eE : ∀ s : List UInt8, Lib.indexAny s [101, 69] = if s.dropWhile notE = [] then -1 else ((s.takeWhile notE).length : Int)
  | [] => rfl
  | x :: l => by
    have ih := indexAny_eE l
    have hc : [101, 69].contains x = isE x := by
      unfold isE
      simp only [List.contains, List.elem]
      cases x == 101 <;> cases x == 69 <;> rfl
    rw [Lib.indexAny, hc, ih, List.dropWhile_cons, List.takeWhile_cons, show notE x = (!isE x) from rfl]
    cases isE x with
    | true => simp
    | false =>
      simp only [Bool.not_false, if_true, zf, if_false, List.length_cons]
      by_cases h : l.dropWhile notE = []
      · simp [h]
      · rw [if_neg h, if_neg h, beq_eq_false_iff_ne.2 (show ¬ ((l.takeWhile notE).length : Int) = -1 by omega)]
        simp only [zf, if_false]
        omega
theorem index_pt : ∀ s : List UInt8, Lib.index s [46] = if s.dropWhile notP = [] then -1 else ((s.takeWhile notP).length : Int)
  | [] => rfl
  | x :: l => by
    have ih := index_pt l
    have hc : [46].isPrefixOf (x :: l) = (x == 46) := by
      simp only [List.isPrefixOf, Bool.and_true]
      rw [Bool.eq_iff_iff, beq_iff_eq, beq_iff_eq]
      exact ⟨Eq.symm, Eq.symm⟩
    rw [Lib.index, hc, ih, List.dropWhile_cons, List.takeWhile_cons, show notP x = (!(x == 46)) from rfl]
    cases x == 46 with
    | true => simp
    | false =>
      simp only [Bool.not_false, if_true, zf, if_false, List.length_cons]
      by_cases h : l.dropWhile notP = []
      · simp [h]
      · rw [if_neg h, if_neg h, beq_eq_false_iff_ne.2 (show ¬ ((l.takeWhile notP).length : Int) = -1 by omega)]
        simp only [zf, if_false]
        omega
theorem take_tw (f : UInt8 → Bool) (s : List UInt8) : s.take (s.takeWhile f).length = s.takeWhile f := by
  induction s with
  | nil => rfl
  | cons x l ih =>
    rw [List.takeWhile_cons]
    cases f x <;> simp [ih]
theorem drop_dw (f : UInt8 → Bool) (s : List UInt8) : s.drop (s.takeWhile f).length = s.dropWhile f := by
  induction s with
  | nil => rfl
  | cons x l ih =>
    rw [List.takeWhile_cons, List.dropWhile_cons]
    cases f x <;> simp [ih]
theorem tw_all (f : UInt8 → Bool) : ∀ s : List UInt8, s.dropWhile f = [] → s.takeWhile f = s
  | [], _ => rfl
  | x :: l, h => by
    rw [List.dropWhile_cons] at h
    rw [List.takeWhile_cons]
    cases hf : f x with
    | true =>
      rw [hf] at h
      simp only [if_true] at h ⊢
      rw [tw_all f l h]
    | false => rw [hf] at h; simp at h
theorem cut_pt (s : List UInt8) : Lib.cut s [46] = (s.takeWhile notP, (s.dropWhile notP).drop 1, !(s.dropWhile notP == [])) := by
  unfold Lib.cut
  rw [index_pt]
  by_cases h : s.dropWhile notP = []
  · simp only [h, if_true]
    rw [if_neg (by omega), tw_all _ _ h]
    rfl
  · rw [if_neg h, if_pos (by omega)]
    have hne : (s.dropWhile notP == []) = false := beq_eq_false_iff_ne.2 h
    rw [hne, Int.toNat_natCast, take_tw, List.length_cons, List.length_nil, ← drop_dw, List.drop_drop]
    rfl
theorem strings_Cut_pt (s : List UInt8) (hs : s.length ≤ 1048576) : r_strings_Cut [.s s, .s [46]] = .ret [.s (s.takeWhile notP), .s ((s.dropWhile notP).drop 1), .b (!(s.dropWhile notP == []))] := by
  rw [eq_strings_Cut]
  simp only [E_strings_Cut, zz0, zz1, zs]
  rw [eq_internal_stringslite_Cut]
  have : E_internal_stringslite_Cut [.s s, .s [46]] = .ret [.s (Lib.cut s [46]).1, .s (Lib.cut s [46]).2.1, .b (Lib.cut s [46]).2.2] := by
    unfold E_internal_stringslite_Cut primH
    have hh : hintLit [.s, .s] h_internal_stringslite_Cut = true := rfl
    have hq : qCut [.s s, .s [46]] = some [.s (Lib.cut s [46]).1, .s (Lib.cut s [46]).2.1, .b (Lib.cut s [46]).2.2] := by
      unfold qCut
      simp only
      rw [if_pos (by omega)]
    rw [hh, hq]
    rfl
  rw [this, cut_pt]
  rfl
theorem strings_IndexAny_eE (s : List UInt8) (hs : s.length ≤ 1048576) : r_strings_IndexAny [.s s, .s [101, 69]] = .ret [.i (if s.dropWhile notE = [] then -1 else ((s.takeWhile notE).length : Int))] := by
  rw [eq_strings_IndexAny]
  unfold E_strings_IndexAny primH
  have hh : hintLit [.s, .s] h_strings_IndexAny = true := rfl
  have hq : qIndexAny [.s s, .s [101, 69]] = some [.i (Lib.indexAny s [101, 69])] := by
    unfold qIndexAny
    simp only
    rw [if_pos ⟨by omega, trivial⟩]
  rw [hh, hq, indexAny_eE]
  rfl
def frontOk (f : List UInt8) (e : Bool) : Bool := intOk (f.takeWhile notP) && ((!(f.dropWhile notP == []) || e) && ((f.dropWhile notP == []) || figs ((f.dropWhile notP).drop 1)))
def floatI (s : List UInt8) : Bool := decide (s.length ≤ 40) && (if s.dropWhile notE = [] then frontOk s false else
  figs (((s.dropWhile notE).drop 1).drop (sg2 ((s.dropWhile notE).drop 1))) && frontOk (s.takeWhile notE) true)
theorem impl_FloatOk (s : List UInt8) (hs : s.length ≤ 1048576) : r_impl_FloatOk [.s s] = .ret [.b (floatI s)] := by
  rw [eq_impl_FloatOk]
  simp only [E_impl_FloatOk, zz0, zz1, zb, zi, zs, floatI]
  rcases Nat.lt_or_ge 40 s.length with h40 | h40
  · have e1 : decide ((s.length : Int) > 40) = true := decide_eq_true (by omega)
    have e2 : decide (s.length ≤ 40) = false := decide_eq_false (by omega)
    simp only [e1, e2, if_true, Bool.false_and]
  have e1 : decide ((s.length : Int) > 40) = false := decide_eq_false (by omega)
  have e2 : decide (s.length ≤ 40) = true := decide_eq_true (by omega)
  simp only [e1, e2, zf, if_false, Bool.true_and, strings_IndexAny_eE s hs, zr, zz0, zi]
  have front : ∀ (f : List UInt8) (k : Int) (e : Bool), f.length ≤ 1048576 → decide (k ≥ 0) = e → ∀ K : List DC → Out, K = (fun v5 => (r_strings_Cut [DC.s (gs v5 0), DC.s ([46] : List UInt8)]).bindR fun r6 =>
      Out.andThen ((r_impl_IntOk [DC.s (gs r6 0)]).bindR fun r7 =>
        if (gb r7 0) = true then
          if (gb r6 2) = true then
            if (!(gb r6 2)) = true then
              .norm [DC.b true]
            else
              (r_impl_figures [DC.s (gs r6 1)]).bindR fun r8 =>
              .norm [DC.b (gb r8 0)]
          else
            if (decide ((gi v5 1) ≥ (0 : Int))) = true then
              if (!(gb r6 2)) = true then
                .norm [DC.b true]
              else
                (r_impl_figures [DC.s (gs r6 1)]).bindR fun r9 =>
                .norm [DC.b (gb r9 0)]
            else
              .norm [DC.b false]
        else
          .norm [DC.b false]) fun v10 =>
      .ret [DC.b (gb v10 0)]) → K [.s f, .i k] = .ret [.b (frontOk f e)] := by
    intro f k e hf he K hK
    rw [hK]
    have h1 : (f.takeWhile notP).length ≤ 1048576 := Nat.le_trans (List.takeWhile_prefix notP).length_le hf
    have h2 : ((f.dropWhile notP).drop 1).length ≤ 1048576 := by
      have := (List.dropWhile_suffix notP (l := f)).length_le
      rw [List.length_drop]; omega
    simp only [zz0, zz1, zb, zi, zs, strings_Cut_pt f hf, zr, impl_IntOk _ h1, impl_figures _ h2, he, frontOk]
    cases intOk (f.takeWhile notP) <;> cases (f.dropWhile notP == []) <;> cases e <;> simp
  by_cases hE : s.dropWhile notE = []
  · have e3 : decide ((-1 : Int) ≥ 0) = false := by decide
    simp only [hE, if_true, e3, zf, if_false, Out.andThen_norm]
    exact front s (-1) false hs e3 _ rfl
  · have e3 : decide (((s.takeWhile notE).length : Int) ≥ 0) = true := decide_eq_true (by omega)
    have hlen : (s.takeWhile notE).length < s.length := by
      rcases Nat.lt_or_ge (s.takeWhile notE).length s.length with h | h
      · exact h
      · exact absurd (by rw [← drop_dw, List.drop_eq_nil_of_le h]) hE
    have e4 : 0 ≤ ((s.takeWhile notE).length : Int) ∧ ((s.takeWhile notE).length : Int) ≤ (s.length : Int) := by omega
    have w1 := wrap_succ hlen (show s.length ≤ 9223372036854775807 by omega)
    have e5 : 0 ≤ (((s.takeWhile notE).length + 1 : Nat) : Int) ∧ (((s.takeWhile notE).length + 1 : Nat) : Int) ≤ (s.length : Int) := by omega
    have hp : s.drop ((s.takeWhile notE).length + 1) = (s.dropWhile notE).drop 1 := by rw [← List.drop_drop, drop_dw]
    have hpl : ((s.dropWhile notE).drop 1).length ≤ 1048576 := by rw [← hp, List.length_drop]; omega
    have hf : (s.takeWhile notE).length ≤ 1048576 := by omega
    simp only [hE, if_false, e3, e4, w1, e5, if_true, and_self, Int.toNat_natCast, take_tw, hp]
    generalize (s.dropWhile notE).drop 1 = p at *
    have pw : ∀ (K : List DC → Out), Out.andThen (if (!(p == ([] : List UInt8))) = true then
                  if 0 ≤ (0 : Int) ∧ (0 : Int) < (p.length : Int) then
                    if (((p.getD (0 : Int).toNat 0).toNat : Int) == (43 : Int)) = true then
                      .norm [DC.s (s.takeWhile notE), DC.s p, DC.i ((s.takeWhile notE).length : Int), DC.b true]
                    else
                      if 0 ≤ (0 : Int) ∧ (0 : Int) < (p.length : Int) then
                        .norm [DC.s (s.takeWhile notE), DC.s p, DC.i ((s.takeWhile notE).length : Int), DC.b (((p.getD (0 : Int).toNat 0).toNat : Int) == (45 : Int))]
                      else
                        .fail
                  else
                    .fail
                else
                  .norm [DC.s (s.takeWhile notE), DC.s p, DC.i ((s.takeWhile notE).length : Int), DC.b false]) (fun v2 =>
              Out.andThen (if (gb v2 3) = true then
                  if 0 ≤ (1 : Int) ∧ (1 : Int) ≤ ((gs v2 1).length : Int) then
                    .norm [DC.s (gs v2 0), DC.s ((gs v2 1).drop (1 : Int).toNat), DC.i (gi v2 2)]
                  else
                    .fail
                else
                  .norm [DC.s (gs v2 0), DC.s (gs v2 1), DC.i (gi v2 2)]) K) = K [.s (s.takeWhile notE), .s (p.drop (sg2 p)), .i ((s.takeWhile notE).length : Int)] := by
      intro K
      cases p with
      | nil => simp [sg2]
      | cons d q =>
        have d1 : ((d.toNat : Int) == 43) = (d == 43) := u8_eq d 43 (by omega)
        have d2 : ((d.toNat : Int) == 45) = (d == 45) := u8_eq d 45 (by omega)
        have e6 : 0 ≤ (0 : Int) ∧ (0 : Int) < ((d :: q).length : Int) := by simp
        have e7 : 0 ≤ (1 : Int) ∧ (1 : Int) ≤ ((d :: q).length : Int) := by rw [List.length_cons]; omega
        have e8 : (d :: q).getD (0 : Int).toNat 0 = d := rfl
        have e9 : ((d :: q) == ([] : List UInt8)) = false := rfl
        simp only [e6, e8, e9, d1, d2, Bool.not_false, if_true, and_self]
        unfold sg2
        by_cases h1 : d = 43
        · subst h1
          simp only [beq_self_eq_true, if_true, Out.andThen_norm, zz0, zz1, zb, zi, zs, e7, and_self]
          rfl
        · have b1 : (d == 43) = false := beq_eq_false_iff_ne.2 h1
          by_cases h2 : d = 45
          · subst h2
            simp only [b1, zf, if_false, beq_self_eq_true, if_true, Out.andThen_norm, zz0, zz1, zb, zi, zs, e7, and_self]
            rfl
          · have b2 : (d == 45) = false := beq_eq_false_iff_ne.2 h2
            simp only [b1, b2, zf, if_false, Out.andThen_norm, zz0, zz1, zb, zi, zs]
            simp [h1, h2]
    rw [pw]
    have hpl2 : (p.drop (sg2 p)).length ≤ 1048576 := by rw [List.length_drop]; omega
    simp only [zz0, zz1, zb, zi, zs, impl_figures _ hpl2, zr]
    cases figs (p.drop (sg2 p)) with
    | false => simp
    | true =>
      simp only [Bool.not_true, zf, if_false, Out.andThen_norm, Bool.true_and]
      exact front _ _ true hf e3 _ rfl
def NoFig (u : List UInt8) : Prop := ∀ c, u.head? = some c → isFig c = false
theorem tw_app (d u : List UInt8) (h : NoFig u) : tw (d ++ u) = tw d := by
  unfold tw
  induction d with
  | nil =>
    cases u with
    | nil => rfl
    | cons c u => rw [List.nil_append, List.takeWhile_cons, h c rfl]; rfl
  | cons x d ih =>
    rw [List.cons_append, List.takeWhile_cons, List.takeWhile_cons]
    cases isFig x <;> simp [ih]
theorem dw_app (d u : List UInt8) (h : NoFig u) : (d ++ u).dropWhile isFig = d.dropWhile isFig ++ u := by
  induction d with
  | nil =>
    cases u with
    | nil => rfl
    | cons c u => rw [List.nil_append, List.dropWhile_cons, h c rfl]; rfl
  | cons x d ih =>
    rw [List.cons_append, List.dropWhile_cons, List.dropWhile_cons]
    cases isFig x <;> simp [ih]
theorem intLen_app (w u : List UInt8) (h : NoFig u) (h45 : u.head? ≠ some 45) : intLen (w ++ u) = intLen w := by
  have hs : sgn (w ++ u) = sgn w := by
    cases w with
    | nil =>
      unfold sgn
      rw [List.nil_append, if_neg h45]
      rfl
    | cons a w => rfl
  have hg := sgn_le w
  unfold intLen
  rw [hs, List.drop_append_of_le_length hg, tw_app _ _ h]
  by_cases h0 : tw (w.drop (sgn w)) = 0
  · rw [if_pos h0, if_pos h0]
  · rw [if_neg h0, if_neg h0]
    have hl : sgn w < w.length := by
      rcases Nat.lt_or_ge (sgn w) w.length with h' | h'
      · exact h'
      · rw [List.drop_eq_nil_of_le h'] at h0
        exact absurd rfl h0
    have e : (w ++ u).getD (sgn w) 0 = w.getD (sgn w) 0 := by
      rw [List.getD_eq_getElem?_getD, List.getD_eq_getElem?_getD, List.getElem?_append_left hl]
    rw [e]
theorem dw_head (f : UInt8 → Bool) (l : List UInt8) (c : UInt8) (h : (l.dropWhile f).head? = some c) : f c = false := by
  induction l with
  | nil => simp at h
  | cons x l ih =>
    rw [List.dropWhile_cons] at h
    cases hx : f x with
    | true => rw [hx] at h; exact ih h
    | false =>
      rw [hx] at h
      simp at h
      rw [← h]; exact hx
theorem isE_nofig {c : UInt8} (h : isE c = true) : isFig c = false ∧ c ≠ 45 ∧ c ≠ 46 := by
  unfold isE at h
  rw [Bool.or_eq_true, beq_iff_eq, beq_iff_eq] at h
  rcases h with rfl | rfl <;> decide
theorem expOk_cons (c : UInt8) (r : List UInt8) (h : isE c = false) : expOk (c :: r) = false := by rw [expOk, h]; rfl
theorem float_eq (s : List UInt8) : floatS s = floatI s := by
  unfold floatS floatI
  rcases Nat.lt_or_ge 40 s.length with h40 | h40
  · have e : decide (s.length ≤ 40) = false := decide_eq_false (by omega)
    rw [e]; rfl
  congr 1
  have himpl : (if s.dropWhile notE = [] then frontOk s false else figs (((s.dropWhile notE).drop 1).drop (sg2 ((s.dropWhile notE).drop 1))) && frontOk (s.takeWhile notE) true) =
      (frontOk (s.takeWhile notE) (!(s.dropWhile notE == [])) && expOk (s.dropWhile notE)) := by
    cases hr : s.dropWhile notE with
    | nil =>
      rw [if_pos rfl, tw_all _ _ hr]
      simp [expOk]
    | cons c r =>
      have hc := dw_head notE s c (by rw [hr]; rfl)
      have hc' : isE c = true := by unfold notE at hc; simpa using hc
      rw [if_neg (by simp), expOk, hc', Bool.and_comm]
      simp
  rw [himpl]
  have hsplit : s = s.takeWhile notE ++ s.dropWhile notE := (List.takeWhile_append_dropWhile).symm
  have hfE : ∀ c ∈ s.takeWhile notE, isE c = false := fun c hc => by
    have := List.all_eq_true.1 (List.all_takeWhile (p := notE) (l := s)) c hc
    unfold notE at this
    simpa using this
  have hrest : ∀ c, (s.dropWhile notE).head? = some c → isE c = true := fun c hc => by
    have := dw_head notE s c hc
    unfold notE at this
    simpa using this
  generalize s.takeWhile notE = f at *
  generalize s.dropWhile notE = rest at *
  subst hsplit
  have hfs : f = f.takeWhile notP ++ f.dropWhile notP := (List.takeWhile_append_dropWhile).symm
  have hwP : ∀ c ∈ f.takeWhile notP, c ≠ 46 := fun c hc => by
    have := List.all_eq_true.1 (List.all_takeWhile (p := notP) (l := f)) c hc
    unfold notP at this
    simpa using this
  have ht : ∀ c, (f.dropWhile notP).head? = some c → c = 46 := fun c hc => by
    have := dw_head notP f c hc
    unfold notP at this
    simpa using this
  unfold frontOk
  generalize f.takeWhile notP = w at *
  generalize f.dropWhile notP = t at *
  subst hfs
  have hu : NoFig (t ++ rest) ∧ (t ++ rest).head? ≠ some 45 := by
    cases t with
    | nil =>
      refine ⟨fun c hc => (isE_nofig (hrest c hc)).1, fun hc => (isE_nofig (hrest 45 hc)).2.1 rfl⟩
    | cons a t =>
      have := ht a rfl
      subst this
      exact ⟨fun c hc => by simp at hc; subst hc; decide, by simp⟩
  rw [List.append_assoc, intLen_app w (t ++ rest) hu.1 hu.2]
  have hwl : w.length ≤ 40 := by simp only [List.length_append] at h40; omega
  have hn := intLen_le w
  have hio : intOk w = (decide (0 < w.length) && (intLen w == w.length)) := by unfold intOk; simp [hwl]
  rw [hio]
  generalize intLen w = n at *
  by_cases h0 : n = 0
  · subst h0
    cases w with
    | nil => simp
    | cons a w => simp
  have e0 : (n == 0) = false := beq_eq_false_iff_ne.2 h0
  by_cases hnw : n = w.length
  · subst hnw
    have hpos : decide (0 < w.length) = true := decide_eq_true (by omega)
    rw [e0, List.drop_left, hpos, beq_self_eq_true]
    have hlen : (w.length == (w ++ (t ++ rest)).length) = (t ++ rest == []) := by
      cases hh : t ++ rest with
      | nil => simp
      | cons a l => simp
    rw [hlen]
    cases t with
    | nil =>
      rw [List.nil_append]
      cases rest with
      | nil => rfl
      | cons c r =>
        have := (isE_nofig (hrest c rfl)).2.2
        simp [pointOk, this]
    | cons a fr =>
      have := ht a rfl
      subst this
      have hnr : NoFig rest := fun c hc => (isE_nofig (hrest c hc)).1
      have e1 : (46 :: fr ++ rest == ([] : List UInt8)) = false := rfl
      have e2 : ((46 :: fr : List UInt8) == []) = false := rfl
      rw [e1, e2]
      rw [List.cons_append, pointOk, if_pos rfl, tw_app _ _ hnr, dw_app _ _ hnr]
      simp only [Bool.not_false, Bool.true_and, Bool.true_or, Bool.false_or, List.drop_succ_cons, List.drop_zero]
      rw [figs_tw]
      by_cases ha : tw fr = fr.length
      · have hd : fr.dropWhile isFig = [] := by rw [← drop_tw, ha, List.drop_length]
        rw [hd, List.nil_append, beq_iff_eq.2 ha, Bool.and_true]
      · rw [beq_eq_false_iff_ne.2 ha, Bool.and_false, Bool.false_and]
        cases hd : fr.dropWhile isFig with
        | nil =>
          have := tw_all isFig fr hd
          exact absurd (congrArg List.length this) ha
        | cons x y =>
          have hx : x ∈ fr := (List.dropWhile_suffix isFig (l := fr)).subset (by rw [hd]; simp)
          rw [List.cons_append, expOk_cons x _ (hfE x (by simp [hx])), Bool.and_false]
  · have e1 : (n == w.length) = false := beq_eq_false_iff_ne.2 hnw
    have hlt : n < w.length := by omega
    rw [e1, List.drop_append_of_le_length hn, List.drop_eq_getElem_cons hlt, List.cons_append, pointOk]
    have hm : w[n] ∈ w := List.getElem_mem hlt
    rw [if_neg (hwP _ hm), expOk_cons _ _ (hfE _ (by simp [hm]))]
    simp
theorem spec_l01In (n a b : Int) : r_spec_l01In [.i n, .i a, .i b] = .ret [.b (decide (a ≤ n) && decide (n ≤ b))] := by
  rw [eq_spec_l01In]
  simp only [E_spec_l01In, zz0, zz1, zb, zi]
  by_cases h : a ≤ n
  · have : decide (n ≥ a) = true := decide_eq_true h
    simp [this, h]
  · have : decide (n ≥ a) = false := decide_eq_false h
    simp [this, h]
def scalar (n : Int) : Bool := decide (0 ≤ n ∧ n ≤ 1114111) && !decide (55296 ≤ n ∧ n ≤ 57343)
theorem spec_l02Scalar (n : Int) : r_spec_l02Scalar [.i n] = .ret [.b (scalar n)] := by
  rw [eq_spec_l02Scalar]
  simp only [E_spec_l02Scalar, zz0, zz1, zb, zi, spec_l01In, zr, scalar, Bool.decide_and]
  cases (decide (0 ≤ n) && decide (n ≤ 1114111)) <;> simp
def runeLen (n : Int) : Nat := if scalar n = true then (if n < 128 then 1 else if n < 2048 then 2 else if n < 65536 then 3 else 4) else 0
theorem spec_RuneText (n : Int) : ∃ t : List UInt8, r_spec_RuneText [.i n] = .ret [.s t] ∧ t.length = runeLen n := by
  rw [eq_spec_RuneText]
  simp only [E_spec_RuneText, zz0, zz1, zb, zi, spec_l02Scalar, zr, runeLen]
  cases scalar n with
  | false => exact ⟨[], by simp, by simp⟩
  | true =>
    simp only [Bool.not_true, zf, if_false, if_true, show ¬ (64 : Int) = 0 by decide, show ¬ (4096 : Int) = 0 by decide, show ¬ (262144 : Int) = 0 by decide]
    by_cases h1 : n < 128
    · exact ⟨_, by simp only [h1, decide_true, if_true]; rfl, by simp [h1, rowBytes]⟩
    · by_cases h2 : n < 2048
      · exact ⟨_, by simp only [h1, h2, decide_true, decide_false, zf, if_true, if_false]; rfl, by simp [h1, h2, rowBytes]⟩
      · by_cases h3 : n < 65536
        · exact ⟨_, by simp only [h1, h2, h3, decide_true, decide_false, zf, if_true, if_false]; rfl, by simp [h1, h2, h3, rowBytes]⟩
        · exact ⟨_, by simp only [h1, h2, h3, decide_true, decide_false, zf, if_true, if_false]; rfl, by simp [h1, h2, h3, rowBytes]⟩
theorem RuneAt_step (s : List UInt8) (i m j : Nat) (n : Int) (hs : s.length ≤ 1048576) (hj : j < m) (hi : i + j < s.length) (h0 : 0 ≤ n) (h1 : n < 16777216) :
    E_spec_RuneAtL1 [.s s, .i (i : Int), .i (m : Int), .i n, .i (j : Int)] = if 128 ≤ (s.getD (i + j) 0).toNat ∧ (s.getD (i + j) 0).toNat ≤ 191 then .norm [.s s, .i (i : Int), .i (m : Int), .i (n * 64 + (s.getD (i + j) 0).toNat - 128), .i ((j + 1 : Nat) : Int)] else .ret [.i (-1), .i 0] := by
  have e1 : decide ((j : Int) < (m : Int)) = true := decide_eq_true (by omega)
  have w1 : IntKind.i64.wrap ((i : Int) + (j : Int)) = ((i + j : Nat) : Int) := by rw [wrap64 (by omega) (by omega)]; omega
  have e2 : 0 ≤ ((i + j : Nat) : Int) ∧ ((i + j : Nat) : Int) < (s.length : Int) := by omega
  have hb := (s.getD (i + j) 0).toNat_lt
  simp only [E_spec_RuneAtL1, zz0, zz1, zb, zi, zs, e1, w1, e2, if_true, and_self, decide_true, Int.toNat_natCast]
  generalize (s.getD (i + j) 0).toNat = c at *
  have w2 : IntKind.i64.wrap (c : Int) = c := wrap64 (by omega) (by omega)
  have w3 : IntKind.i64.wrap (n * 64) = n * 64 := wrap64 (by omega) (by omega)
  have w4 : IntKind.i64.wrap (n * 64 + c) = n * 64 + c := wrap64 (by omega) (by omega)
  have w5 : IntKind.i64.wrap (n * 64 + c - 128) = n * 64 + c - 128 := wrap64 (by omega) (by omega)
  have w6 : IntKind.i64.wrap ((j : Int) + 1) = ((j + 1 : Nat) : Int) := by rw [wrap64 (by omega) (by omega)]; omega
  rw [w2]
  by_cases h2 : c < 128
  · have d1 : decide ((c : Int) < 128) = true := decide_eq_true (by omega)
    simp only [d1, if_true, Out.andThen_norm, zz0, zz1, zb]
    rw [if_neg (show ¬ (128 ≤ c ∧ c ≤ 191) by omega)]
    rfl
  · have d1 : decide ((c : Int) < 128) = false := decide_eq_false (by omega)
    simp only [d1, zf, if_false, Out.andThen_norm, zz0, zz1, zb, zi, zs]
    by_cases h3 : c ≤ 191
    · have d2 : decide ((c : Int) > 191) = false := decide_eq_false (by omega)
      rw [if_pos (show 128 ≤ c ∧ c ≤ 191 by omega), d2]
      simp only [zf, if_false, w3, w4, w5]
      show Out.norm _ = _
      simp only [zz0, zz1, zi, zs, w6]
    · have d2 : decide ((c : Int) > 191) = true := decide_eq_true (by omega)
      rw [if_neg (show ¬ (128 ≤ c ∧ c ≤ 191) by omega), d2]
      rfl
theorem RuneAt_end (s : List UInt8) (i m : Nat) (n : Int) : E_spec_RuneAtL1 [.s s, .i (i : Int), .i (m : Int), .i n, .i (m : Int)] = .ex 1 [.i (m : Int), .i n] := by
  simp [E_spec_RuneAtL1]
def runeAt (d : Nat × Nat) : List DC := if d.1 = 65533 ∧ d.2 = 1 then [.i (-1), .i 0] else [.i (d.1 : Int), .i (d.2 : Int)]
def cont (c : Nat) : Bool := decide (128 ≤ c) && decide (c ≤ 191)
def finR (m : Nat) (n : Int) : List DC := if runeLen n = m then [.i n, .i (m : Int)] else [.i (-1), .i 0]
def specR (N b1 b2 b3 m : Nat) (n0 : Int) : List DC :=
  if N < m then [.i (-1), .i 0] else
  if cont b1 = false then [.i (-1), .i 0] else
  if m = 2 then finR 2 (n0 * 64 + b1 - 128) else
  if cont b2 = false then [.i (-1), .i 0] else
  if m = 3 then finR 3 ((n0 * 64 + b1 - 128) * 64 + b2 - 128) else
  if cont b3 = false then [.i (-1), .i 0] else
  finR 4 (((n0 * 64 + b1 - 128) * 64 + b2 - 128) * 64 + b3 - 128)
theorem cont_true {c : Nat} (h : cont c = true) : c / 64 = 2 ∧ c % 64 = c - 128 ∧ 128 ≤ c ∧ c ≤ 191 := by
  unfold cont at h
  simp only [Bool.and_eq_true, decide_eq_true_eq] at h
  omega
theorem cont_false {c : Nat} (hc : c < 256) (h : cont c = false) : ¬ c / 64 = 2 := by
  unfold cont at h
  simp only [Bool.and_eq_false_iff, decide_eq_false_iff_not] at h
  omega
theorem finR_eq (m : Nat) (n : Int) (k : Nat) (hm : 2 ≤ m) (hk : n = (k : Int)) (h : runeLen n = m) : finR m n = runeAt (k, m) := by
  unfold finR runeAt
  rw [if_pos h, if_neg (by simp only; omega), hk]
theorem finR_bad (m : Nat) (n : Int) (h : ¬ runeLen n = m) : finR m n = runeAt (65533, 1) := by
  unfold finR
  rw [if_neg h]; rfl
theorem pure2 (N b0 b1 b2 b3 : Nat) (h : 194 ≤ b0 ∧ b0 < 224) (h1 : b1 < 256) : specR N b1 b2 b3 2 ((b0 : Int) - 192) = runeAt (Lib.decodeN N b0 b1 b2 b3) := by
  have hd : Lib.decodeN N b0 b1 b2 b3 = if 1 < N ∧ b1 / 64 = 2 then (if b0 % 32 * 64 + b1 % 64 ≥ 128 then (b0 % 32 * 64 + b1 % 64, 2) else (65533, 1)) else (65533, 1) := by
    unfold Lib.decodeN
    rw [if_neg (by omega)]
    by_cases hc : 1 < N ∧ b1 / 64 = 2
    · rw [if_pos ⟨by omega, hc⟩, if_pos hc]
    · rw [if_neg (fun h => hc h.2), if_neg hc, if_neg (by omega), if_neg (by omega)]
  rw [hd]
  unfold specR
  by_cases hN : N < 2
  · rw [if_pos hN, if_neg (by omega)]; rfl
  rw [if_neg hN]
  cases hc : cont b1 with
  | false => rw [if_pos rfl, if_neg (fun h => cont_false h1 hc h.2)]; rfl
  | true =>
    obtain ⟨k1, k2, k3, k4⟩ := cont_true hc
    rw [if_neg (by simp), if_pos rfl, if_pos ⟨by omega, k1⟩, if_pos (by omega)]
    refine finR_eq 2 _ _ (by omega) (by omega) ?_
    unfold runeLen scalar
    rw [if_pos (by simp; omega), if_neg (by omega), if_pos (by omega)]
theorem pure3 (N b0 b1 b2 b3 : Nat) (h : 224 ≤ b0 ∧ b0 < 240) (h1 : b1 < 256) (h2 : b2 < 256) : specR N b1 b2 b3 3 ((b0 : Int) - 224) = runeAt (Lib.decodeN N b0 b1 b2 b3) := by
  have hd : Lib.decodeN N b0 b1 b2 b3 = if (1 < N ∧ b1 / 64 = 2) ∧ (2 < N ∧ b2 / 64 = 2) then
    (if b0 % 16 * 4096 + b1 % 64 * 64 + b2 % 64 ≥ 2048 ∧ (b0 % 16 * 4096 + b1 % 64 * 64 + b2 % 64 < 55296 ∨ (57344 ≤ b0 % 16 * 4096 + b1 % 64 * 64 + b2 % 64 ∧ b0 % 16 * 4096 + b1 % 64 * 64 + b2 % 64 ≤ 1114111))
     then (b0 % 16 * 4096 + b1 % 64 * 64 + b2 % 64, 3) else (65533, 1)) else (65533, 1) := by
    unfold Lib.decodeN
    rw [if_neg (by omega), if_neg (by omega)]
    by_cases hc : (1 < N ∧ b1 / 64 = 2) ∧ (2 < N ∧ b2 / 64 = 2)
    · rw [if_pos ⟨by omega, hc.1, hc.2⟩, if_pos hc]
    · rw [if_neg (fun h => hc ⟨h.2.1, h.2.2⟩), if_neg hc, if_neg (by omega)]
  rw [hd]
  unfold specR
  by_cases hN : N < 3
  · rw [if_pos hN, if_neg (by omega)]; rfl
  rw [if_neg hN]
  cases hc : cont b1 with
  | false => rw [if_pos rfl, if_neg (fun h => cont_false h1 hc h.1.2)]; rfl
  | true =>
    obtain ⟨k1, k2, k3, k4⟩ := cont_true hc
    rw [if_neg (by simp), if_neg (by omega)]
    cases hc2 : cont b2 with
    | false => rw [if_pos rfl, if_neg (fun h => cont_false h2 hc2 h.2.2)]; rfl
    | true =>
      obtain ⟨l1, l2, l3, l4⟩ := cont_true hc2
      rw [if_neg (by simp), if_pos rfl, if_pos ⟨⟨by omega, k1⟩, by omega, l1⟩]
      by_cases hv : b0 % 16 * 4096 + b1 % 64 * 64 + b2 % 64 ≥ 2048 ∧ (b0 % 16 * 4096 + b1 % 64 * 64 + b2 % 64 < 55296 ∨ (57344 ≤ b0 % 16 * 4096 + b1 % 64 * 64 + b2 % 64 ∧ b0 % 16 * 4096 + b1 % 64 * 64 + b2 % 64 ≤ 1114111))
      · rw [if_pos hv]
        refine finR_eq 3 _ _ (by omega) (by omega) ?_
        unfold runeLen scalar
        rw [if_pos (by simp; omega), if_neg (by omega), if_neg (by omega), if_pos (by omega)]
      · rw [if_neg hv]
        refine finR_bad 3 _ ?_
        unfold runeLen scalar
        by_cases hsc : (decide (0 ≤ (((b0 : Int) - 224) * 64 + b1 - 128) * 64 + b2 - 128 ∧ (((b0 : Int) - 224) * 64 + b1 - 128) * 64 + b2 - 128 ≤ 1114111) && !decide (55296 ≤ (((b0 : Int) - 224) * 64 + b1 - 128) * 64 + b2 - 128 ∧ (((b0 : Int) - 224) * 64 + b1 - 128) * 64 + b2 - 128 ≤ 57343)) = true
        · rw [if_pos hsc]
          simp only [Bool.and_eq_true, decide_eq_true_eq, Bool.not_eq_true', decide_eq_false_iff_not] at hsc
          rcases Int.lt_or_le ((((b0 : Int) - 224) * 64 + b1 - 128) * 64 + b2 - 128) 2048 with hq | hq
          · split <;> omega
          · omega
        · rw [if_neg hsc]; omega
theorem pure4 (N b0 b1 b2 b3 : Nat) (h : 240 ≤ b0 ∧ b0 < 245) (h1 : b1 < 256) (h2 : b2 < 256) (h3 : b3 < 256) : specR N b1 b2 b3 4 ((b0 : Int) - 240) = runeAt (Lib.decodeN N b0 b1 b2 b3) := by
  have hd : Lib.decodeN N b0 b1 b2 b3 = if (1 < N ∧ b1 / 64 = 2) ∧ (2 < N ∧ b2 / 64 = 2) ∧ (3 < N ∧ b3 / 64 = 2) then
    (if b0 % 8 * 262144 + b1 % 64 * 4096 + b2 % 64 * 64 + b3 % 64 ≥ 65536 ∧ (b0 % 8 * 262144 + b1 % 64 * 4096 + b2 % 64 * 64 + b3 % 64 < 55296 ∨ (57344 ≤ b0 % 8 * 262144 + b1 % 64 * 4096 + b2 % 64 * 64 + b3 % 64 ∧ b0 % 8 * 262144 + b1 % 64 * 4096 + b2 % 64 * 64 + b3 % 64 ≤ 1114111))
     then (b0 % 8 * 262144 + b1 % 64 * 4096 + b2 % 64 * 64 + b3 % 64, 4) else (65533, 1)) else (65533, 1) := by
    unfold Lib.decodeN
    rw [if_neg (by omega), if_neg (by omega), if_neg (by omega)]
    by_cases hc : (1 < N ∧ b1 / 64 = 2) ∧ (2 < N ∧ b2 / 64 = 2) ∧ (3 < N ∧ b3 / 64 = 2)
    · rw [if_pos ⟨by omega, hc⟩, if_pos hc]
    · rw [if_neg (fun h => hc h.2), if_neg hc]
  rw [hd]
  unfold specR
  by_cases hN : N < 4
  · rw [if_pos hN, if_neg (by omega)]; rfl
  rw [if_neg hN]
  cases hc : cont b1 with
  | false => rw [if_pos rfl, if_neg (fun h => cont_false h1 hc h.1.2)]; rfl
  | true =>
    obtain ⟨k1, k2, k3, k4⟩ := cont_true hc
    rw [if_neg (by simp), if_neg (by omega)]
    cases hc2 : cont b2 with
    | false => rw [if_pos rfl, if_neg (fun h => cont_false h2 hc2 h.2.1.2)]; rfl
    | true =>
      obtain ⟨l1, l2, l3, l4⟩ := cont_true hc2
      rw [if_neg (by simp), if_neg (by omega)]
      cases hc3 : cont b3 with
      | false => rw [if_pos rfl, if_neg (fun h => cont_false h3 hc3 h.2.2.2)]; rfl
      | true =>
        obtain ⟨m1, m2, m3, m4⟩ := cont_true hc3
        rw [if_neg (by simp), if_pos ⟨⟨by omega, k1⟩, ⟨by omega, l1⟩, by omega, m1⟩]
        by_cases hv : b0 % 8 * 262144 + b1 % 64 * 4096 + b2 % 64 * 64 + b3 % 64 ≥ 65536 ∧ (b0 % 8 * 262144 + b1 % 64 * 4096 + b2 % 64 * 64 + b3 % 64 < 55296 ∨ (57344 ≤ b0 % 8 * 262144 + b1 % 64 * 4096 + b2 % 64 * 64 + b3 % 64 ∧ b0 % 8 * 262144 + b1 % 64 * 4096 + b2 % 64 * 64 + b3 % 64 ≤ 1114111))
        · rw [if_pos hv]
          refine finR_eq 4 _ _ (by omega) (by omega) ?_
          unfold runeLen scalar
          rw [if_pos (by simp; omega), if_neg (by omega), if_neg (by omega), if_neg (by omega)]
        · rw [if_neg hv]
          refine finR_bad 4 _ ?_
          generalize hn : ((((b0 : Int) - 240) * 64 + b1 - 128) * 64 + b2 - 128) * 64 + b3 - 128 = n
          unfold runeLen scalar
          split
          · rename_i hsc
            simp only [Bool.and_eq_true, decide_eq_true_eq, Bool.not_eq_true', decide_eq_false_iff_not] at hsc
            split
            · omega
            · split
              · omega
              · split <;> omega
          · omega
theorem pure0 (N b0 b1 b2 b3 : Nat) (h : 128 ≤ b0) (hA : ¬ (194 ≤ b0 ∧ b0 < 224)) (hB : ¬ (224 ≤ b0 ∧ b0 < 240)) (hC : ¬ (240 ≤ b0 ∧ b0 < 245)) : runeAt (Lib.decodeN N b0 b1 b2 b3) = [.i (-1), .i 0] := by
  have : Lib.decodeN N b0 b1 b2 b3 = (65533, 1) := by
    unfold Lib.decodeN
    rw [if_neg (by omega)]
    by_cases h1 : b0 / 32 = 6 ∧ (1 < N ∧ b1 / 64 = 2)
    · rw [if_pos h1, if_neg (by omega)]
    · rw [if_neg h1, if_neg (by omega)]
      by_cases h2 : b0 / 8 = 30 ∧ (1 < N ∧ b1 / 64 = 2) ∧ (2 < N ∧ b2 / 64 = 2) ∧ (3 < N ∧ b3 / 64 = 2)
      · rw [if_pos h2, if_neg (by omega)]
      · rw [if_neg h2]
  rw [this]; rfl
theorem spec_RuneAt (s : List UInt8) (i : Nat) (hs : s.length ≤ 1048576) (hi : i < s.length) : r_spec_RuneAt [.s s, .i (i : Int)] = .ret (runeAt (Lib.decodeL (s.drop i))) := by
  rw [eq_spec_RuneAt, Lib.decodeL_N, List.length_drop, Lib.getD_dropU, Lib.getD_dropU, Lib.getD_dropU, Lib.getD_dropU, Nat.add_zero]
  have e1 : decide ((i : Int) < 0) = false := decide_eq_false (by omega)
  have e2 : decide ((i : Int) ≥ (s.length : Int)) = false := decide_eq_false (by omega)
  have e3 : 0 ≤ (i : Int) ∧ (i : Int) < (s.length : Int) := by omega
  simp only [E_spec_RuneAt, zz0, zz1, zb, zi, zs, e1, e2, e3, zf, if_false, if_true, and_self, Out.andThen_norm, Int.toNat_natCast]
  have hb0 := (s.getD i 0).toNat_lt
  have hb1 := (s.getD (i + 1) 0).toNat_lt
  have hb2 := (s.getD (i + 2) 0).toNat_lt
  have hb3 := (s.getD (i + 3) 0).toNat_lt
  have st := RuneAt_step s i
  generalize hB0 : (s.getD i 0).toNat = b0 at *
  have w0 : IntKind.i64.wrap (b0 : Int) = b0 := wrap64 (by omega) (by omega)
  rw [w0]
  by_cases c0 : b0 < 128
  · have d1 : decide ((b0 : Int) < 128) = true := decide_eq_true (by omega)
    simp only [d1, if_true]
    have : Lib.decodeN (s.length - i) b0 (s.getD (i + 1) 0).toNat (s.getD (i + 2) 0).toNat (s.getD (i + 3) 0).toNat = (b0, 1) := by unfold Lib.decodeN; rw [if_pos c0]
    rw [this]
    unfold runeAt
    rw [if_neg (by simp only; omega)]
    rfl
  have d0' : decide ((b0 : Int) < 128) = false := decide_eq_false (by omega)
  have fin : ∀ (m : Nat) (n : Int) (o : Out), o = .ex 1 [.i (m : Int), .i n] → Out.andThenB o 1 (fun v11 => (r_spec_RuneText [DC.i (gi v11 1)]).bindR fun r12 =>
          if (((gs r12 0).length : Int) != (gi v11 0)) = true then
            .ret [DC.i (-1 : Int), DC.i (0 : Int)]
          else
            .ret [DC.i (gi v11 1), DC.i (gi v11 0)]) = .ret (if runeLen n = m then [.i n, .i (m : Int)] else [.i (-1), .i 0]) := by
    intro m n o ho
    subst ho
    obtain ⟨t, ht, hl⟩ := spec_RuneText n
    show Out.bindR (r_spec_RuneText [DC.i n]) _ = _
    rw [ht, zr]
    show (if (((t.length : Int) != (m : Int)) = true) then Out.ret [DC.i (-1), DC.i 0] else Out.ret [DC.i n, DC.i (m : Int)]) = _
    rw [hl]
    by_cases h : runeLen n = m
    · rw [if_pos h, h]; simp
    · rw [if_neg h, if_pos (by simp; omega)]
  have hBk : ∀ k, ((s.getD (i + k) 0).toNat) < 256 := fun k => (s.getD (i + k) 0).toNat_lt
  have body : ∀ (m : Nat) (n0 : Int), m = 2 ∨ m = 3 ∨ m = 4 → 0 ≤ n0 → n0 < 64 → (if decide (((i + m : Nat) : Int) > (s.length : Int)) = true then Out.ret [DC.i (-1 : Int), DC.i (0 : Int)] else
        Out.andThenB (Loop E_spec_RuneAtL1 [DC.s s, DC.i (i : Int), DC.i (m : Int), DC.i n0, DC.i (1 : Int)]) 1 (fun v11 => (r_spec_RuneText [DC.i (gi v11 1)]).bindR fun r12 =>
          if (((gs r12 0).length : Int) != (gi v11 0)) = true then
            .ret [DC.i (-1 : Int), DC.i (0 : Int)]
          else
            .ret [DC.i (gi v11 1), DC.i (gi v11 0)])) = .ret (specR (s.length - i) (s.getD (i + 1) 0).toNat (s.getD (i + 2) 0).toNat (s.getD (i + 3) 0).toNat m n0) := by
    intro m n0 hm h0 h1
    unfold specR
    by_cases hN : s.length - i < m
    · have e : decide (((i + m : Nat) : Int) > (s.length : Int)) = true := decide_eq_true (by omega)
      rw [if_pos e, if_pos hN]
    have e : decide (((i + m : Nat) : Int) > (s.length : Int)) = false := decide_eq_false (by omega)
    rw [if_neg hN]
    simp only [e, zf, if_false]
    have hc : ∀ k, cont (s.getD (i + k) 0).toNat = decide (128 ≤ (s.getD (i + k) 0).toNat ∧ (s.getD (i + k) 0).toNat ≤ 191) := fun k => by unfold cont; rw [Bool.decide_and]
    have stp : ∀ (j : Nat) (n : Int), j < m → 0 ≤ n → n < 16777216 → E_spec_RuneAtL1 [.s s, .i (i : Int), .i (m : Int), .i n, .i (j : Int)] = if cont (s.getD (i + j) 0).toNat = false then .ret [.i (-1), .i 0] else .norm [.s s, .i (i : Int), .i (m : Int), .i (n * 64 + (s.getD (i + j) 0).toNat - 128), .i ((j + 1 : Nat) : Int)] := by
      intro j n hj a b
      rw [RuneAt_step s i m j n hs hj (by omega) a b, hc]
      by_cases hq : 128 ≤ (s.getD (i + j) 0).toNat ∧ (s.getD (i + j) 0).toNat ≤ 191
      · rw [if_pos hq, decide_eq_true hq]; rfl
      · rw [if_neg hq, decide_eq_false hq]; rfl
    have rng : ∀ (j : Nat), cont (s.getD (i + j) 0).toNat = true → 128 ≤ (s.getD (i + j) 0).toNat ∧ (s.getD (i + j) 0).toNat ≤ 191 := fun j hj => ⟨(cont_true hj).2.2.1, (cont_true hj).2.2.2⟩
    have s1 := stp 1 n0 (by omega) h0 (by omega)
    cases c1 : cont (s.getD (i + 1) 0).toNat with
    | false =>
      rw [c1, if_pos rfl] at s1
      rw [if_pos rfl]
      have := Loop_ret s1
      rw [show ((1 : Nat) : Int) = 1 from rfl] at this
      rw [this]; rfl
    | true =>
      have r1 := rng 1 c1
      rw [c1, if_neg (by simp)] at s1
      rw [if_neg (by simp)]
      have l1 := Loop_norm s1
      rw [show ((1 : Nat) : Int) = 1 from rfl] at l1
      rw [l1]
      by_cases m2 : m = 2
      · subst m2
        rw [if_pos rfl]
        exact fin 2 _ _ (Loop_ex (RuneAt_end s i 2 _))
      rw [if_neg m2]
      have s2 := stp 2 (n0 * 64 + (s.getD (i + 1) 0).toNat - 128) (by omega) (by omega) (by omega)
      cases c2 : cont (s.getD (i + 2) 0).toNat with
      | false =>
        rw [c2, if_pos rfl] at s2
        rw [if_pos rfl]
        show Out.andThenB (Loop _ [_, _, _, _, .i ((2 : Nat) : Int)]) _ _ = _
        rw [Loop_ret s2]; rfl
      | true =>
        have r2 := rng 2 c2
        rw [c2, if_neg (by simp)] at s2
        rw [if_neg (by simp)]
        show Out.andThenB (Loop _ [_, _, _, _, .i ((2 : Nat) : Int)]) _ _ = _
        rw [Loop_norm s2]
        by_cases m3 : m = 3
        · subst m3
          rw [if_pos rfl]
          exact fin 3 _ _ (Loop_ex (RuneAt_end s i 3 _))
        rw [if_neg m3]
        have m4 : m = 4 := by omega
        subst m4
        have s3 := stp 3 ((n0 * 64 + (s.getD (i + 1) 0).toNat - 128) * 64 + (s.getD (i + 2) 0).toNat - 128) (by omega) (by omega) (by omega)
        cases c3 : cont (s.getD (i + 3) 0).toNat with
        | false =>
          rw [c3, if_pos rfl] at s3
          rw [if_pos rfl]
          show Out.andThenB (Loop _ [_, _, _, _, .i ((3 : Nat) : Int)]) _ _ = _
          rw [Loop_ret s3]; rfl
        | true =>
          rw [c3, if_neg (by simp)] at s3
          rw [if_neg (by simp)]
          show Out.andThenB (Loop _ [_, _, _, _, .i ((3 : Nat) : Int)]) _ _ = _
          rw [Loop_norm s3]
          exact fin 4 _ _ (Loop_ex (RuneAt_end s i 4 _))
  simp only [d0', zf, if_false]
  by_cases cA : 194 ≤ b0 ∧ b0 < 224
  · have d1 : decide ((b0 : Int) ≥ 194) = true := decide_eq_true (by omega)
    have d2 : decide ((b0 : Int) < 224) = true := decide_eq_true (by omega)
    have w1 : IntKind.i64.wrap ((b0 : Int) - 192) = b0 - 192 := wrap64 (by omega) (by omega)
    have w2 : IntKind.i64.wrap ((i : Int) + 2) = ((i + 2 : Nat) : Int) := by rw [wrap64 (by omega) (by omega)]; omega
    simp only [d1, d2, if_true, Out.andThen_norm, Out.andThenB_norm, zz0, zz1, zb, zi, zs, w1, w2]
    exact (body 2 ((b0 : Int) - 192) (by omega) (by omega) (by omega)).trans (congrArg Out.ret (pure2 _ _ _ _ _ cA (hBk 1)))
  by_cases cB : 224 ≤ b0 ∧ b0 < 240
  · have d1 : decide ((b0 : Int) ≥ 194) = true := decide_eq_true (by omega)
    have d2 : decide ((b0 : Int) < 224) = false := decide_eq_false (by omega)
    have d3 : decide ((b0 : Int) ≥ 224) = true := decide_eq_true (by omega)
    have d4 : decide ((b0 : Int) < 240) = true := decide_eq_true (by omega)
    have w1 : IntKind.i64.wrap ((b0 : Int) - 224) = b0 - 224 := wrap64 (by omega) (by omega)
    have w2 : IntKind.i64.wrap ((i : Int) + 3) = ((i + 3 : Nat) : Int) := by rw [wrap64 (by omega) (by omega)]; omega
    simp only [d1, d2, d3, d4, if_true, zf, if_false, Out.andThen_norm, Out.andThenB_norm, zz0, zz1, zb, zi, zs, w1, w2]
    exact (body 3 ((b0 : Int) - 224) (by omega) (by omega) (by omega)).trans (congrArg Out.ret (pure3 _ _ _ _ _ cB (hBk 1) (hBk 2)))
  by_cases cC : 240 ≤ b0 ∧ b0 < 245
  · have d1 : decide ((b0 : Int) ≥ 194) = true := decide_eq_true (by omega)
    have d2 : decide ((b0 : Int) < 224) = false := decide_eq_false (by omega)
    have d3 : decide ((b0 : Int) ≥ 224) = true := decide_eq_true (by omega)
    have d4 : decide ((b0 : Int) < 240) = false := decide_eq_false (by omega)
    have d5 : decide ((b0 : Int) ≥ 240) = true := decide_eq_true (by omega)
    have d6 : decide ((b0 : Int) < 245) = true := decide_eq_true (by omega)
    have w1 : IntKind.i64.wrap ((b0 : Int) - 240) = b0 - 240 := wrap64 (by omega) (by omega)
    have w2 : IntKind.i64.wrap ((i : Int) + 4) = ((i + 4 : Nat) : Int) := by rw [wrap64 (by omega) (by omega)]; omega
    simp only [d1, d2, d3, d4, d5, d6, if_true, zf, if_false, Out.andThen_norm, Out.andThenB_norm, zz0, zz1, zb, zi, zs, w1, w2]
    exact (body 4 ((b0 : Int) - 240) (by omega) (by omega) (by omega)).trans (congrArg Out.ret (pure4 _ _ _ _ _ cC (hBk 1) (hBk 2) (hBk 3)))
  rw [pure0 _ _ _ _ _ (by omega) cA cB cC]
  rcases Nat.lt_or_ge b0 194 with q | q
  · have d1 : decide ((b0 : Int) ≥ 194) = false := decide_eq_false (by omega)
    have d3 : decide ((b0 : Int) ≥ 224) = false := decide_eq_false (by omega)
    have d5 : decide ((b0 : Int) ≥ 240) = false := decide_eq_false (by omega)
    simp only [d1, d3, d5, if_true, zf, if_false, Out.andThen_norm, Out.andThenB_norm, zz0, zz1, zb, zi, zs]
    rfl
  · have d1 : decide ((b0 : Int) ≥ 194) = true := decide_eq_true (by omega)
    have d2 : decide ((b0 : Int) < 224) = false := decide_eq_false (by omega)
    have d3 : decide ((b0 : Int) ≥ 224) = true := decide_eq_true (by omega)
    have d4 : decide ((b0 : Int) < 240) = false := decide_eq_false (by omega)
    have d5 : decide ((b0 : Int) ≥ 240) = true := decide_eq_true (by omega)
    have d6 : decide ((b0 : Int) < 245) = false := decide_eq_false (by omega)
    simp only [d1, d2, d3, d4, d5, d6, if_true, zf, if_false, Out.andThen_norm, Out.andThenB_norm, zz0, zz1, zb, zi, zs]
    rfl
theorem spec_TextOk (s : List UInt8) (hs : s.length ≤ 1048576) : r_spec_TextOk [.s s] = .ret [.b (Lib.validD s)] := by
  rw [eq_spec_TextOk]
  simp only [E_spec_TextOk, zz0, zz1, zb, zi, zs]
  have key : ∀ (k i : Nat), s.length - i ≤ k → i ≤ s.length → Loop E_spec_TextOkL1 [.s s, .i (i : Int)] = if Lib.validD (s.drop i) = true then .ex 0 [] else .ret [.b false] := by
    intro k
    induction k with
    | zero =>
      intro i hk hi
      have : i = s.length := by omega
      subst this
      have e : decide ((s.length : Int) < (s.length : Int)) = false := decide_eq_false (by omega)
      rw [Loop_ex (r := []) (id := 0) (by simp only [E_spec_TextOkL1, zz0, zz1, zi, zs, e, zf, if_false]), List.drop_length]
      rfl
    | succ k ih =>
      intro i hk hi
      rcases Nat.lt_or_ge i s.length with hl | hl
      · have hne : s.drop i ≠ [] := fun h => by have := List.drop_eq_nil_iff.1 h; omega
        rw [Lib.validD_step _ hne]
        have hw := Lib.decodeL_width (s.drop i)
        have hdl : (s.drop i).length = s.length - i := List.length_drop
        have hpos : 0 < (s.drop i).length := List.length_pos_iff.2 hne
        have e : decide ((i : Int) < (s.length : Int)) = true := decide_eq_true (by omega)
        have hle : (Lib.decodeL (s.drop i)).2 ≤ s.length - i := by
          rw [← hdl]
          have := decodeN_wide (s.drop i).length ((s.drop i).getD 0 0).toNat ((s.drop i).getD 1 0).toNat ((s.drop i).getD 2 0).toNat ((s.drop i).getD 3 0).toNat hpos
          rw [← Lib.decodeL_N] at this
          exact this.2.1
        have hge : 1 ≤ (Lib.decodeL (s.drop i)).2 := by
          have := decodeN_wide (s.drop i).length ((s.drop i).getD 0 0).toNat ((s.drop i).getD 1 0).toNat ((s.drop i).getD 2 0).toNat ((s.drop i).getD 3 0).toNat hpos
          rw [← Lib.decodeL_N] at this
          exact this.1
        have hra := spec_RuneAt s i hs hl
        unfold runeAt at hra
        by_cases hb : (Lib.decodeL (s.drop i)).1 = 65533 ∧ (Lib.decodeL (s.drop i)).2 = 1
        · rw [if_pos hb] at hra ⊢
          rw [Loop_ret (r := [.b false]) (by simp only [E_spec_TextOkL1, zz0, zz1, zi, zs, e, if_true, hra, zr]; rfl)]
          rfl
        · rw [if_neg hb] at hra ⊢
          have e2 : decide (((Lib.decodeL (s.drop i)).1 : Int) < 0) = false := decide_eq_false (by omega)
          have w : IntKind.i64.wrap ((i : Int) + ((Lib.decodeL (s.drop i)).2 : Int)) = ((i + (Lib.decodeL (s.drop i)).2 : Nat) : Int) := by rw [wrap64 (by omega) (by omega)]; omega
          rw [Loop_norm (v' := [.s s, .i ((i + (Lib.decodeL (s.drop i)).2 : Nat) : Int)]) (by simp only [E_spec_TextOkL1, zz0, zz1, zi, zs, e, if_true, hra, zr, e2, zf, if_false, w, Out.andThenB_norm]),
            ih _ (by omega) (by omega), List.drop_drop]
      · have : i = s.length := by omega
        subst this
        have e : decide ((s.length : Int) < (s.length : Int)) = false := decide_eq_false (by omega)
        rw [Loop_ex (r := []) (id := 0) (by simp only [E_spec_TextOkL1, zz0, zz1, zi, zs, e, zf, if_false]), List.drop_length]
        rfl
  have h := key s.length 0 (by omega) (by omega)
  rw [show ((0 : Nat) : Int) = 0 from rfl, List.drop_zero] at h
  rw [h]
  cases Lib.validD s <;> simp
theorem impl_TextOk (s : List UInt8) (hs : s.length ≤ 1048576) : r_impl_TextOk [.s s] = .ret [.b (Lib.validD s)] := by
  rw [eq_impl_TextOk]
  simp only [E_impl_TextOk, zz0, zz1, zb, zi, zs]
  rw [eq_unicode_utf8_ValidString]
  have : E_unicode_utf8_ValidString [.s s] = .ret [.b (Lib.validD s)] := by
    unfold E_unicode_utf8_ValidString primH
    have hh : hintLit [.s] h_unicode_utf8_ValidString = true := rfl
    have hq : qValidString [.s s] = some [.b (Lib.validD s)] := by
      unfold qValidString
      simp only
      rw [if_pos (by omega)]
    rw [hh, hq]
    rfl
  rw [this]
  rfl
def hexL : List UInt8 := [48, 49, 50, 51, 52, 53, 54, 55, 56, 57, 97, 98, 99, 100, 101, 102]
def hx (n : Nat) : UInt8 := hexL.getD n 0
def esc (b : UInt8) : List UInt8 :=
  if (b == 34) = true then [92, 34] else if (b == 92) = true then [92, 92] else if (b == 8) = true then [92, 98] else if (b == 9) = true then [92, 116] else if (b == 10) = true then [92, 110] else
  if (b == 12) = true then [92, 102] else if (b == 13) = true then [92, 114] else if b.toNat < 32 ∨ (b == 127) = true then [92, 117, 48, 48, hx (b.toNat / 16), hx (b.toNat % 16)] else [b]
theorem esc_len (b : UInt8) : (esc b).length ≤ 6 := by
  unfold esc
  repeat' split
  all_goals simp
def escs (s : List UInt8) : List UInt8 := s.flatMap esc
theorem escs_len : ∀ s : List UInt8, (escs s).length ≤ 6 * s.length
  | [] => Nat.le_refl _
  | b :: s => by
    have := escs_len s
    have hb := esc_len b
    unfold escs at *
    rw [List.flatMap_cons, List.length_append, List.length_cons]
    omega
def escaped (s : List UInt8) : List UInt8 := if Lib.validD s = true ∧ s.length ≤ 200 then 34 :: (escs s ++ [34]) else []
theorem shr4 : ∀ n : Fin 256, ((n.1 : Int).fdiv (2 ^ (min (4 : Int).toNat (IntKind.u8.bits)))) = ((n.1 / 16 : Nat) : Int) := by decide +kernel
theorem and15 : ∀ n : Fin 256, (IntKind.u8.wrap (BitVec.ofInt (IntKind.u8.bits) (n.1 : Int) &&& BitVec.ofInt (IntKind.u8.bits) (15 : Int)).toNat) = ((n.1 % 16 : Nat) : Int) := by decide +kernel
theorem spec_l04Hex4 (n : Nat) (hn : n < 256) : r_spec_l04Hex4 [.i (n : Int)] = .ret [.s [48, 48, hx (n / 16), hx (n % 16)]] := by
  rw [eq_spec_l04Hex4]
  have w : ∀ k : Nat, IntKind.i64.wrap ((n : Int).tdiv (k : Int)) = ((n / k : Nat) : Int) := fun k => by
    have e : ((n : Int).tdiv (k : Int)) = ((n / k : Nat) : Int) := rfl
    rw [e]
    have := Nat.div_le_self n k
    generalize n / k = q at *
    exact wrap64 (by omega) (by omega)
  have w1 : IntKind.i64.wrap ((n : Int).tdiv 4096) = ((n / 4096 : Nat) : Int) := w 4096
  have w2 : IntKind.i64.wrap ((n : Int).tdiv 256) = ((n / 256 : Nat) : Int) := w 256
  have w3 : IntKind.i64.wrap ((n : Int).tdiv 16) = ((n / 16 : Nat) : Int) := w 16
  have t : ∀ k : Nat, ((k : Int).tmod 16) = ((k % 16 : Nat) : Int) := fun k => rfl
  have b : ∀ k : Nat, (0 ≤ ((k % 16 : Nat) : Int) ∧ ((k % 16 : Nat) : Int) < (([48, 49, 50, 51, 52, 53, 54, 55, 56, 57, 97, 98, 99, 100, 101, 102] : List UInt8).length : Int)) = True := fun k => by
    simp only [List.length_cons, List.length_nil, eq_iff_iff, iff_true]
    omega
  have h0 : n / 4096 % 16 = 0 := by omega
  have h1 : n / 256 % 16 = 0 := by omega
  have h2 : n / 16 % 16 = n / 16 := by omega
  simp only [E_spec_l04Hex4, zz0, zi, w1, w2, w3, t, b, if_true, show ¬ (4096 : Int) = 0 by decide, show ¬ (256 : Int) = 0 by decide, show ¬ (16 : Int) = 0 by decide, if_false, Int.toNat_natCast, h0, h1, h2]
  have b0 : (0 ≤ ((0 : Nat) : Int) ∧ ((0 : Nat) : Int) < (([48, 49, 50, 51, 52, 53, 54, 55, 56, 57, 97, 98, 99, 100, 101, 102] : List UInt8).length : Int)) = True := b 0
  have b1 : (0 ≤ ((n / 16 : Nat) : Int) ∧ ((n / 16 : Nat) : Int) < (([48, 49, 50, 51, 52, 53, 54, 55, 56, 57, 97, 98, 99, 100, 101, 102] : List UInt8).length : Int)) = True := by
    have := b (n / 16)
    rw [h2] at this
    exact this
  simp only [b0, b1, if_true]
  have hh : ∀ k : Nat, UInt8.ofNat (((hexL.getD k 0).toNat : Int)).toNat = hx k := fun k => by
    rw [Int.toNat_natCast]
    exact UInt8.ofNat_toNat
  show Out.ret [DC.s [UInt8.ofNat _, UInt8.ofNat _, UInt8.ofNat _, UInt8.ofNat _]] = _
  have e := hh (n / 16)
  have e' := hh (n % 16)
  unfold hexL at e e'
  simp only [zz0, zi, e, e']
  rfl
theorem take_drop_one (s : List UInt8) (i : Nat) (hi : i < s.length) : (s.take (i + 1)).drop i = [s.getD i 0] := by
  rw [List.drop_take, show i + 1 - i = 1 by omega, List.drop_eq_getElem_cons hi, List.take_succ_cons, List.take_zero, List.getD_eq_getElem?_getD, List.getElem?_eq_getElem hi]
  rfl
theorem spec_Escaped_step (s out : List UInt8) (i : Nat) (hs : s.length ≤ 200) (hi : i < s.length) (ho : out.length ≤ 2000) :
    E_spec_EscapedL1 [.s s, .s out, .i (i : Int)] = .norm [.s s, .s (out ++ esc (s.getD i 0)), .i ((i + 1 : Nat) : Int)] := by
  have e1 : decide ((i : Int) < (s.length : Int)) = true := decide_eq_true (by omega)
  have e2 : 0 ≤ (i : Int) ∧ (i : Int) < (s.length : Int) := by omega
  have w := wrap_succ hi (show s.length ≤ 9223372036854775807 by omega)
  have e3 : 0 ≤ (i : Int) ∧ (i : Int) ≤ ((i + 1 : Nat) : Int) ∧ ((i + 1 : Nat) : Int) ≤ (s.length : Int) := by omega
  have L : ∀ k, k ≤ 2010 → k < LIM := fun k hk => Nat.lt_of_le_of_lt hk (by decide)
  have td := take_drop_one s i hi
  have hb := (s.getD i 0).toNat_lt
  simp only [E_spec_EscapedL1, zz0, zz1, zb, zi, zs, e1, e2, if_true, and_self, decide_true, Int.toNat_natCast, w, e3, td]
  generalize s.getD i 0 = b at *
  have u34 : ((b.toNat : Int) == 34) = (b == 34) := u8_eq b 34 (by omega)
  have u92 : ((b.toNat : Int) == 92) = (b == 92) := u8_eq b 92 (by omega)
  have u8' : ((b.toNat : Int) == 8) = (b == 8) := u8_eq b 8 (by omega)
  have u9 : ((b.toNat : Int) == 9) = (b == 9) := u8_eq b 9 (by omega)
  have u10 : ((b.toNat : Int) == 10) = (b == 10) := u8_eq b 10 (by omega)
  have u12 : ((b.toNat : Int) == 12) = (b == 12) := u8_eq b 12 (by omega)
  have u13 : ((b.toNat : Int) == 13) = (b == 13) := u8_eq b 13 (by omega)
  have u127 : ((b.toNat : Int) == 127) = (b == 127) := u8_eq b 127 (by omega)
  have wb : IntKind.i64.wrap (b.toNat : Int) = (b.toNat : Int) := wrap64 (by omega) (by omega)
  have u32 : decide ((b.toNat : Int) < 32) = decide (b.toNat < 32) := by rw [Bool.eq_iff_iff, decide_eq_true_eq, decide_eq_true_eq]; omega
  have l1 : ∀ x y : UInt8, out.length + [x, y].length < LIM := fun x y => L _ (by simp; omega)
  have l2 : ∀ x : UInt8, out.length + [x].length < LIM := fun x => L _ (by simp; omega)
  have l3 : ∀ x y : UInt8, (out ++ [x]).length + [y].length < LIM := fun x y => L _ (by simp; omega)
  have l4 : ∀ x y a b c d : UInt8, (out ++ [x, y]).length + [a, b, c, d].length < LIM := fun x y a b c d => L _ (by simp; omega)
  simp only [u34, u92, u8', u9, u10, u12, u13, u127, u32, wb]
  unfold esc
  cases h34 : b == 34 with
  | true =>
    rw [beq_iff_eq] at h34
    subst h34
    simp only [if_true, Out.andThen_norm, Out.andThenB_norm, zz0, zz1, zb, zi, zs, l2, l3, e3, and_self, w, td, Int.toNat_natCast, List.append_assoc, List.singleton_append, beq_self_eq_true]
  | false =>
  cases h92 : b == 92 with
  | true =>
    rw [beq_iff_eq] at h92
    subst h92
    simp only [show ((92 : UInt8) == 34) = false from rfl, if_true, zf, if_false, Out.andThen_norm, Out.andThenB_norm, zz0, zz1, zb, zi, zs, l1, l2, l3, l4, e3, and_self, w, td, Int.toNat_natCast, List.append_assoc, List.singleton_append, List.cons_append, List.nil_append, beq_self_eq_true, u34, u92, u8', u9, u10, u12, u13, u127, u32, wb]
  | false =>
  cases h8 : b == 8 with
  | true =>
    simp only [decide_true, decide_false, h34, h92, h8, if_true, zf, if_false, Out.andThen_norm, Out.andThenB_norm, zz0, zz1, zb, zi, zs, l1, l2, l3, l4, e3, and_self, w, td, Int.toNat_natCast, List.append_assoc, List.singleton_append, List.cons_append, List.nil_append, beq_self_eq_true, u34, u92, u8', u9, u10, u12, u13, u127, u32, wb]
  | false =>
  cases h9 : b == 9 with
  | true =>
    simp only [decide_true, decide_false, h34, h92, h8, h9, if_true, zf, if_false, Out.andThen_norm, Out.andThenB_norm, zz0, zz1, zb, zi, zs, l1, l2, l3, l4, e3, and_self, w, td, Int.toNat_natCast, List.append_assoc, List.singleton_append, List.cons_append, List.nil_append, beq_self_eq_true, u34, u92, u8', u9, u10, u12, u13, u127, u32, wb]
  | false =>
  cases h10 : b == 10 with
  | true =>
    simp only [decide_true, decide_false, h34, h92, h8, h9, h10, if_true, zf, if_false, Out.andThen_norm, Out.andThenB_norm, zz0, zz1, zb, zi, zs, l1, l2, l3, l4, e3, and_self, w, td, Int.toNat_natCast, List.append_assoc, List.singleton_append, List.cons_append, List.nil_append, beq_self_eq_true, u34, u92, u8', u9, u10, u12, u13, u127, u32, wb]
  | false =>
  cases h12 : b == 12 with
  | true =>
    simp only [decide_true, decide_false, h34, h92, h8, h9, h10, h12, if_true, zf, if_false, Out.andThen_norm, Out.andThenB_norm, zz0, zz1, zb, zi, zs, l1, l2, l3, l4, e3, and_self, w, td, Int.toNat_natCast, List.append_assoc, List.singleton_append, List.cons_append, List.nil_append, beq_self_eq_true, u34, u92, u8', u9, u10, u12, u13, u127, u32, wb]
  | false =>
  cases h13 : b == 13 with
  | true =>
    simp only [decide_true, decide_false, h34, h92, h8, h9, h10, h12, h13, if_true, zf, if_false, Out.andThen_norm, Out.andThenB_norm, zz0, zz1, zb, zi, zs, l1, l2, l3, l4, e3, and_self, w, td, Int.toNat_natCast, List.append_assoc, List.singleton_append, List.cons_append, List.nil_append, beq_self_eq_true, u34, u92, u8', u9, u10, u12, u13, u127, u32, wb]
  | false =>
  by_cases h32 : b.toNat < 32
  · have d : decide (b.toNat < 32) = true := decide_eq_true h32
    simp only [decide_true, decide_false, h34, h92, h8, h9, h10, h12, h13, d, h32, true_or, spec_l04Hex4 _ hb, zr, if_true, zf, if_false, Out.andThen_norm, Out.andThenB_norm, zz0, zz1, zb, zi, zs, l1, l2, l3, l4, e3, and_self, w, td, Int.toNat_natCast, List.append_assoc, List.singleton_append, List.cons_append, List.nil_append, beq_self_eq_true, u34, u92, u8', u9, u10, u12, u13, u127, u32, wb]
  · have d : decide (b.toNat < 32) = false := decide_eq_false h32
    cases h127 : b == 127 with
    | true =>
      simp only [decide_true, decide_false, h34, h92, h8, h9, h10, h12, h13, d, h32, h127, or_true, spec_l04Hex4 _ hb, zr, if_true, zf, if_false, Out.andThen_norm, Out.andThenB_norm, zz0, zz1, zb, zi, zs, l1, l2, l3, l4, e3, and_self, w, td, Int.toNat_natCast, List.append_assoc, List.singleton_append, List.cons_append, List.nil_append, beq_self_eq_true, u34, u92, u8', u9, u10, u12, u13, u127, u32, wb]
    | false =>
      simp only [decide_true, decide_false, h34, h92, h8, h9, h10, h12, h13, d, h32, h127, or_self, if_true, zf, if_false, Out.andThen_norm, Out.andThenB_norm, zz0, zz1, zb, zi, zs, l1, l2, l3, l4, e3, and_self, w, td, Int.toNat_natCast, List.append_assoc, List.singleton_append, List.cons_append, List.nil_append, beq_self_eq_true, u34, u92, u8', u9, u10, u12, u13, u127, u32, wb]
theorem spec_Escaped (s : List UInt8) (hs : s.length ≤ 1048576) : r_spec_Escaped [.s s] = .ret [.s (escaped s)] := by
  rw [eq_spec_Escaped]
  simp only [E_spec_Escaped, zz0, zz1, zb, zi, zs, spec_TextOk s hs, zr]
  cases hv : Lib.validD s with
  | false =>
    have he : escaped s = [] := by unfold escaped; rw [if_neg (by rw [hv]; simp)]
    rw [he]
    simp
  | true =>
    rcases Nat.lt_or_ge 200 s.length with h | h
    · have e : decide ((s.length : Int) > 200) = true := decide_eq_true (by omega)
      have he : escaped s = [] := by unfold escaped; rw [if_neg (by omega)]
      rw [he]
      simp only [e, Bool.not_true, zf, if_false, if_true, Out.andThen_norm, zz0, zz1, zb]
    · have e : decide ((s.length : Int) > 200) = false := decide_eq_false (by omega)
      have he : escaped s = 34 :: (escs s ++ [34]) := by unfold escaped; rw [if_pos ⟨hv, h⟩]
      rw [he]
      simp only [e, Bool.not_true, zf, if_false, if_true, Out.andThen_norm, zz0, zz1, zb, zs]
      have key := Loop_upto (F := E_spec_EscapedL1) (st := fun i => [.s s, .s (34 :: escs (s.take i)), .i (i : Int)]) (o := .ex 0 [.s (34 :: escs s)]) s.length 0 (fun j _ hj => ?step) ?fin
      · have k2 : Loop E_spec_EscapedL1 [.s s, .s [34], .i 0] = .ex 0 [.s (34 :: escs s)] := key
        have hl := escs_len s
        have L : (34 :: escs s).length + [(34 : UInt8)].length < LIM := Nat.lt_of_le_of_lt (show _ ≤ 2010 by simp; omega) (by decide)
        rw [k2]
        simp only [Out.andThenB_ex, if_true, zz0, zs, L, List.cons_append]
      case step =>
        have hj' : j < s.length := by omega
        have hl := escs_len (s.take j)
        rw [List.length_take] at hl
        rw [spec_Escaped_step s _ j h hj' (by simp; omega)]
        congr 4
        rw [List.take_succ_eq_append_getElem hj', escs, escs, List.flatMap_append, List.flatMap_singleton, List.getD_eq_getElem?_getD, List.getElem?_eq_getElem hj']
        rfl
      case fin =>
        have e : decide ((s.length : Int) < (s.length : Int)) = false := decide_eq_false (by omega)
        rw [Nat.zero_add]
        refine Loop_ex ?_
        simp only [E_spec_EscapedL1, zz0, zz1, zi, zs, e, zf, if_false, List.take_length]
def brows (l : List UInt8) : List (List DC) := l.map fun x => [.i (x.toNat : Int)]
theorem brows_app (l m : List UInt8) : brows (l ++ m) = brows l ++ brows m := List.map_append
theorem brows_len (l : List UInt8) : (brows l).length = l.length := zm _
theorem rowBytes_rows : ∀ l : List UInt8, rowBytes (brows l) = l
  | [] => rfl
  | x :: l => by
    have := rowBytes_rows l
    unfold rowBytes brows at *
    rw [List.map_cons, List.map_cons, this]
    congr 1
    show UInt8.ofNat ((x.toNat : Int)).toNat = x
    rw [Int.toNat_natCast]
    exact UInt8.ofNat_toNat
theorem strings_IndexByte (l : List UInt8) (b : UInt8) : r_strings_IndexByte [.s l, .i (b.toNat : Int)] = .ret [.i (Lib.indexByte l b)] := by
  rw [eq_strings_IndexByte]
  simp only [E_strings_IndexByte, zz0, zz1, zb, zi, zs]
  rw [eq_internal_stringslite_IndexByte]
  have : E_internal_stringslite_IndexByte [.s l, .i (b.toNat : Int)] = .ret [.i (Lib.indexByte l ((b.toNat : Int)).toNat.toUInt8)] := by
    unfold E_internal_stringslite_IndexByte primH
    have hh : hintLit [.s, .i .u8] h_internal_stringslite_IndexByte = true := rfl
    have hq : qIndexByte [.s l, .i (b.toNat : Int)] = some [.i (Lib.indexByte l ((b.toNat : Int)).toNat.toUInt8)] := rfl
    rw [hh, hq]
    rfl
  have hb : ((b.toNat : Int)).toNat.toUInt8 = b := by simp
  rw [this, hb]
  rfl
theorem impl_Escaped_step (s out : List UInt8) (i : Nat) (hs : s.length ≤ 200) (hi : i < s.length) (ho : out.length ≤ 2000) :
    E_impl_EscapedL1 [.s s, .sl (brows out), .i (s.length : Int), .i (i : Int)] = .norm [.s s, .sl (brows (out ++ esc (s.getD i 0))), .i (s.length : Int), .i ((i + 1 : Nat) : Int)] := by
  have e1 : decide ((i : Int) < (s.length : Int)) = true := decide_eq_true (by omega)
  have e2 : 0 ≤ (i : Int) ∧ (i : Int) < (s.length : Int) := by omega
  have w := wrap_succ hi (show s.length ≤ 9223372036854775807 by omega)
  have L : ∀ k, k ≤ 2010 → k < LIM := fun k hk => Nat.lt_of_le_of_lt hk (by decide)
  have hb := (s.getD i 0).toNat_lt
  rw [brows_app]
  simp only [E_impl_EscapedL1, zz0, zz1, zb, zi, zs, zl, e1, e2, if_true, and_self, decide_true, Int.toNat_natCast, w, strings_IndexByte, zr]
  generalize s.getD i 0 = b at *
  have u127 : ((b.toNat : Int) == 127) = (b == 127) := u8_eq b 127 (by omega)
  have u32 : decide ((b.toNat : Int) < 32) = decide (b.toNat < 32) := by rw [Bool.eq_iff_iff, decide_eq_true_eq, decide_eq_true_eq]; omega
  have l1 : ∀ x : List DC, (brows out).length + [x].length < LIM := fun x => L _ (by rw [brows_len]; simp; omega)
  have l2 : ∀ x y : List DC, (brows out).length + [x, y].length < LIM := fun x y => L _ (by rw [brows_len]; simp; omega)
  have l6 : ∀ x y z u v q : List DC, (brows out).length + [x, y, z, u, v, q].length < LIM := fun x y z u v q => L _ (by rw [brows_len]; simp; omega)
  unfold esc
  cases h34 : b == 34 with
  | true =>
    rw [beq_iff_eq] at h34
    subst h34
    have g0 : Lib.indexByte [34, 92, 8, 9, 10, 12, 13] 34 = 0 := by decide
    have g1 : decide ((0 : Int) ≥ 0) = true := rfl
    have g2 : (0 ≤ (0 : Int) ∧ (0 : Int) < (([34, 92, 98, 116, 110, 102, 114] : List UInt8).length : Int)) = True := by simp
    have g3 : ([34, 92, 98, 116, 110, 102, 114] : List UInt8).getD (0 : Int).toNat 0 = 34 := rfl
    simp only [g0, g1, g2, g3, if_true, zf, if_false, Out.andThen_norm, Out.andThenB_norm, zz0, zz1, zb, zi, zs, zl, l1, l2, l6, and_self, w, Int.toNat_natCast]
    rfl
  | false =>
  cases h92 : b == 92 with
  | true =>
    rw [beq_iff_eq] at h92
    subst h92
    have g0 : Lib.indexByte [34, 92, 8, 9, 10, 12, 13] 92 = 1 := by decide
    have g1 : decide ((1 : Int) ≥ 0) = true := rfl
    have g2 : (0 ≤ (1 : Int) ∧ (1 : Int) < (([34, 92, 98, 116, 110, 102, 114] : List UInt8).length : Int)) = True := by simp
    have g3 : ([34, 92, 98, 116, 110, 102, 114] : List UInt8).getD (1 : Int).toNat 0 = 92 := rfl
    simp only [g0, g1, g2, g3, if_true, zf, if_false, Out.andThen_norm, Out.andThenB_norm, zz0, zz1, zb, zi, zs, zl, l1, l2, l6, and_self, w, Int.toNat_natCast, h34]
    rfl
  | false =>
  cases h8 : b == 8 with
  | true =>
    rw [beq_iff_eq] at h8
    subst h8
    have g0 : Lib.indexByte [34, 92, 8, 9, 10, 12, 13] 8 = 2 := by decide
    have g1 : decide ((2 : Int) ≥ 0) = true := rfl
    have g2 : (0 ≤ (2 : Int) ∧ (2 : Int) < (([34, 92, 98, 116, 110, 102, 114] : List UInt8).length : Int)) = True := by simp
    have g3 : ([34, 92, 98, 116, 110, 102, 114] : List UInt8).getD (2 : Int).toNat 0 = 98 := rfl
    simp only [g0, g1, g2, g3, if_true, zf, if_false, Out.andThen_norm, Out.andThenB_norm, zz0, zz1, zb, zi, zs, zl, l1, l2, l6, and_self, w, Int.toNat_natCast, h34, h92]
    rfl
  | false =>
  cases h9 : b == 9 with
  | true =>
    rw [beq_iff_eq] at h9
    subst h9
    have g0 : Lib.indexByte [34, 92, 8, 9, 10, 12, 13] 9 = 3 := by decide
    have g1 : decide ((3 : Int) ≥ 0) = true := rfl
    have g2 : (0 ≤ (3 : Int) ∧ (3 : Int) < (([34, 92, 98, 116, 110, 102, 114] : List UInt8).length : Int)) = True := by simp
    have g3 : ([34, 92, 98, 116, 110, 102, 114] : List UInt8).getD (3 : Int).toNat 0 = 116 := rfl
    simp only [g0, g1, g2, g3, if_true, zf, if_false, Out.andThen_norm, Out.andThenB_norm, zz0, zz1, zb, zi, zs, zl, l1, l2, l6, and_self, w, Int.toNat_natCast, h34, h92, h8]
    rfl
  | false =>
  cases h10 : b == 10 with
  | true =>
    rw [beq_iff_eq] at h10
    subst h10
    have g0 : Lib.indexByte [34, 92, 8, 9, 10, 12, 13] 10 = 4 := by decide
    have g1 : decide ((4 : Int) ≥ 0) = true := rfl
    have g2 : (0 ≤ (4 : Int) ∧ (4 : Int) < (([34, 92, 98, 116, 110, 102, 114] : List UInt8).length : Int)) = True := by simp
    have g3 : ([34, 92, 98, 116, 110, 102, 114] : List UInt8).getD (4 : Int).toNat 0 = 110 := rfl
    simp only [g0, g1, g2, g3, if_true, zf, if_false, Out.andThen_norm, Out.andThenB_norm, zz0, zz1, zb, zi, zs, zl, l1, l2, l6, and_self, w, Int.toNat_natCast, h34, h92, h8, h9]
    rfl
  | false =>
  cases h12 : b == 12 with
  | true =>
    rw [beq_iff_eq] at h12
    subst h12
    have g0 : Lib.indexByte [34, 92, 8, 9, 10, 12, 13] 12 = 5 := by decide
    have g1 : decide ((5 : Int) ≥ 0) = true := rfl
    have g2 : (0 ≤ (5 : Int) ∧ (5 : Int) < (([34, 92, 98, 116, 110, 102, 114] : List UInt8).length : Int)) = True := by simp
    have g3 : ([34, 92, 98, 116, 110, 102, 114] : List UInt8).getD (5 : Int).toNat 0 = 102 := rfl
    simp only [g0, g1, g2, g3, if_true, zf, if_false, Out.andThen_norm, Out.andThenB_norm, zz0, zz1, zb, zi, zs, zl, l1, l2, l6, and_self, w, Int.toNat_natCast, h34, h92, h8, h9, h10]
    rfl
  | false =>
  cases h13 : b == 13 with
  | true =>
    rw [beq_iff_eq] at h13
    subst h13
    have g0 : Lib.indexByte [34, 92, 8, 9, 10, 12, 13] 13 = 6 := by decide
    have g1 : decide ((6 : Int) ≥ 0) = true := rfl
    have g2 : (0 ≤ (6 : Int) ∧ (6 : Int) < (([34, 92, 98, 116, 110, 102, 114] : List UInt8).length : Int)) = True := by simp
    have g3 : ([34, 92, 98, 116, 110, 102, 114] : List UInt8).getD (6 : Int).toNat 0 = 114 := rfl
    simp only [g0, g1, g2, g3, if_true, zf, if_false, Out.andThen_norm, Out.andThenB_norm, zz0, zz1, zb, zi, zs, zl, l1, l2, l6, and_self, w, Int.toNat_natCast, h34, h92, h8, h9, h10, h12]
    rfl
  | false =>
  have cm : ∀ c : UInt8, (c == b) = (b == c) := fun c => by rw [Bool.eq_iff_iff, beq_iff_eq, beq_iff_eq]; exact ⟨Eq.symm, Eq.symm⟩
  have g0 : Lib.indexByte [34, 92, 8, 9, 10, 12, 13] b = -1 := by
    simp only [Lib.indexByte, cm, h34, h92, h8, h9, h10, h12, h13, zf, if_false, beq_self_eq_true, if_true]
  have g1 : decide ((-1 : Int) ≥ 0) = false := rfl
  have q1 := shr4 ⟨b.toNat, hb⟩
  have q2 := and15 ⟨b.toNat, hb⟩
  have q3 : (0 ≤ ((b.toNat / 16 : Nat) : Int) ∧ ((b.toNat / 16 : Nat) : Int) < (([48, 49, 50, 51, 52, 53, 54, 55, 56, 57, 97, 98, 99, 100, 101, 102] : List UInt8).length : Int)) = True := by
    simp only [List.length_cons, List.length_nil, eq_iff_iff, iff_true]
    omega
  have q4 : (0 ≤ ((b.toNat % 16 : Nat) : Int) ∧ ((b.toNat % 16 : Nat) : Int) < (([48, 49, 50, 51, 52, 53, 54, 55, 56, 57, 97, 98, 99, 100, 101, 102] : List UInt8).length : Int)) = True := by
    simp only [List.length_cons, List.length_nil, eq_iff_iff, iff_true]
    omega
  have q5 : ¬ (4 : Int) < 0 := by decide
  by_cases h32 : b.toNat < 32
  · have d : decide (b.toNat < 32) = true := decide_eq_true h32
    simp only [g0, g1, u32, d, h32, decide_true, true_or, q1, q2, q3, q4, q5, h34, h92, h8, h9, h10, h12, h13, if_true, zf, if_false, Out.andThen_norm, Out.andThenB_norm, zz0, zz1, zb, zi, zs, zl, l1, l2, l6, and_self, w, Int.toNat_natCast]
    rfl
  · have d : decide (b.toNat < 32) = false := decide_eq_false h32
    cases h127 : b == 127 with
    | true =>
      simp only [g0, g1, u32, u127, d, h32, h127, decide_false, or_true, q1, q2, q3, q4, q5, h34, h92, h8, h9, h10, h12, h13, if_true, zf, if_false, Out.andThen_norm, Out.andThenB_norm, zz0, zz1, zb, zi, zs, zl, l1, l2, l6, and_self, w, Int.toNat_natCast]
      rfl
    | false =>
      simp only [g0, g1, u32, u127, d, h32, h127, decide_false, or_self, h34, h92, h8, h9, h10, h12, h13, if_true, zf, if_false, Out.andThen_norm, Out.andThenB_norm, zz0, zz1, zb, zi, zs, zl, l1, l2, l6, and_self, w, Int.toNat_natCast]
      rfl
theorem impl_Escaped (s : List UInt8) (hs : s.length ≤ 1048576) : r_impl_Escaped [.s s] = .ret [.s (escaped s)] := by
  rw [eq_impl_Escaped]
  simp only [E_impl_Escaped, zz0, zz1, zb, zi, zs, impl_TextOk s hs, zr]
  cases hv : Lib.validD s with
  | false =>
    have he : escaped s = [] := by unfold escaped; rw [if_neg (by rw [hv]; simp)]
    rw [he]
    simp
  | true =>
    rcases Nat.lt_or_ge 200 s.length with h | h
    · have e : decide ((s.length : Int) > 200) = true := decide_eq_true (by omega)
      have he : escaped s = [] := by unfold escaped; rw [if_neg (by omega)]
      rw [he]
      simp only [e, Bool.not_true, zf, if_false, if_true, Out.andThen_norm, zz0, zz1, zb]
    · have e : decide ((s.length : Int) > 200) = false := decide_eq_false (by omega)
      have he : escaped s = 34 :: (escs s ++ [34]) := by unfold escaped; rw [if_pos ⟨hv, h⟩]
      rw [he]
      simp only [e, Bool.not_true, zf, if_false, if_true, Out.andThen_norm, zz0, zz1, zb, zs]
      have key := Loop_upto (F := E_impl_EscapedL1) (st := fun i => [.s s, .sl (brows (34 :: escs (s.take i))), .i (s.length : Int), .i (i : Int)]) (o := .ex 0 [.sl (brows (34 :: escs s))]) s.length 0 (fun j _ hj => ?step) ?fin
      · have k2 : Loop E_impl_EscapedL1 [.s s, .sl [[.i 34]], .i (s.length : Int), .i 0] = .ex 0 [.sl (brows (34 :: escs s))] := key
        have hl := escs_len s
        have L : (brows (34 :: escs s)).length + [[DC.i (34 : Int)]].length < LIM := Nat.lt_of_le_of_lt (show _ ≤ 2010 by rw [brows_len]; simp; omega) (by decide)
        rw [k2]
        simp only [Out.andThenB_ex, if_true, zz0, zl, L]
        have : brows (34 :: escs s) ++ [[DC.i (34 : Int)]] = brows (34 :: (escs s ++ [34])) := (brows_app (34 :: escs s) [34]).symm
        rw [this, rowBytes_rows]
      case step =>
        have hj' : j < s.length := by omega
        have hl := escs_len (s.take j)
        rw [List.length_take] at hl
        rw [impl_Escaped_step s _ j h hj' (by simp; omega)]
        congr 5
        rw [List.take_succ_eq_append_getElem hj', escs, escs, List.flatMap_append, List.flatMap_singleton, List.getD_eq_getElem?_getD, List.getElem?_eq_getElem hj']
        rfl
      case fin =>
        have e : decide ((s.length : Int) < (s.length : Int)) = false := decide_eq_false (by omega)
        rw [Nat.zero_add]
        refine Loop_ex ?_
        simp only [E_impl_EscapedL1, zz0, zz1, zi, zs, zl, e, zf, if_false, List.take_length]
def letr (b : UInt8) : Bool := (decide (97 ≤ b.toNat) && decide (b.toNat ≤ 122)) || (decide (65 ≤ b.toNat) && decide (b.toNat ≤ 90))
def nmC (b : UInt8) : Bool := letr b || (isFig b || b == 95)
theorem spec_l03Letter (b : UInt8) : r_spec_l03Letter [.i (b.toNat : Int)] = .ret [.b (letr b || b == 95)] := by
  rw [eq_spec_l03Letter]
  have u : ((b.toNat : Int) == 95) = (b == 95) := u8_eq b 95 (by omega)
  have a1 : decide ((b.toNat : Int) ≥ 97) = decide (97 ≤ b.toNat) := by rw [Bool.eq_iff_iff, decide_eq_true_eq, decide_eq_true_eq]; omega
  have a2 : decide ((b.toNat : Int) ≤ 122) = decide (b.toNat ≤ 122) := by rw [Bool.eq_iff_iff, decide_eq_true_eq, decide_eq_true_eq]; omega
  have a3 : decide ((b.toNat : Int) ≥ 65) = decide (65 ≤ b.toNat) := by rw [Bool.eq_iff_iff, decide_eq_true_eq, decide_eq_true_eq]; omega
  have a4 : decide ((b.toNat : Int) ≤ 90) = decide (b.toNat ≤ 90) := by rw [Bool.eq_iff_iff, decide_eq_true_eq, decide_eq_true_eq]; omega
  simp only [E_spec_l03Letter, zz0, zi, u, a1, a2, a3, a4, letr]
  cases decide (97 ≤ b.toNat) <;> cases decide (b.toNat ≤ 122) <;> cases decide (65 ≤ b.toNat) <;> cases decide (b.toNat ≤ 90) <;> rfl
theorem impl_isLetter (b : UInt8) : r_impl_isLetter [.i (b.toNat : Int)] = .ret [.b (letr b)] := by
  rw [eq_impl_isLetter]
  have a1 : decide ((b.toNat : Int) ≥ 97) = decide (97 ≤ b.toNat) := by rw [Bool.eq_iff_iff, decide_eq_true_eq, decide_eq_true_eq]; omega
  have a2 : decide ((b.toNat : Int) ≤ 122) = decide (b.toNat ≤ 122) := by rw [Bool.eq_iff_iff, decide_eq_true_eq, decide_eq_true_eq]; omega
  have a3 : decide ((b.toNat : Int) ≥ 65) = decide (65 ≤ b.toNat) := by rw [Bool.eq_iff_iff, decide_eq_true_eq, decide_eq_true_eq]; omega
  have a4 : decide ((b.toNat : Int) ≤ 90) = decide (b.toNat ≤ 90) := by rw [Bool.eq_iff_iff, decide_eq_true_eq, decide_eq_true_eq]; omega
  simp only [E_impl_isLetter, zz0, zi, a1, a2, a3, a4, letr]
  cases decide (97 ≤ b.toNat) <;> cases decide (b.toNat ≤ 122) <;> cases decide (65 ≤ b.toNat) <;> cases decide (b.toNat ≤ 90) <;> rfl
theorem impl_inName (b : UInt8) : r_impl_inName [.i (b.toNat : Int)] = .ret [.b (nmC b)] := by
  rw [eq_impl_inName]
  have u : ((b.toNat : Int) == 95) = (b == 95) := u8_eq b 95 (by omega)
  simp only [E_impl_inName, zz0, zi, u, impl_isLetter, impl_isFigure, zr, zb, nmC]
  cases letr b <;> cases isFig b <;> simp
theorem impl_in (n a b : Int) : r_impl_in [.i n, .i a, .i b] = .ret [.b (decide (a ≤ n) && decide (n ≤ b))] := by
  rw [eq_impl_in]
  simp only [E_impl_in, zz0, zz1, zb, zi]
  by_cases h : a ≤ n
  · have : decide (n ≥ a) = true := decide_eq_true h
    simp [this, h]
  · have : decide (n ≥ a) = false := decide_eq_false h
    simp [this, h]
def nameOk (s : List UInt8) : Bool := decide (0 < s.length) && (decide (s.length ≤ 30) && (!isFig (s.getD 0 0) && s.all nmC))
theorem spec_NameOk (s : List UInt8) (hs : s.length ≤ 1048576) : r_spec_NameOk [.s s] = .ret [.b (nameOk s)] := by
  rw [eq_spec_NameOk]
  have hl : Loop E_spec_NameOkL1 [.s s, .i 0] = if (s.any fun x => !nmC x) = true then .ret [.b false] else .ex 0 [] := by
    rw [show (0 : Int) = ((0 : Nat) : Int) from rfl, Loop_find0 (l := s) (st := fun i => [.s s, .i (i : Int)]) (p := fun x => !nmC x) (stop := fun i _ => .ret [.b false]) (fin := .ex 0 []) (fun i hi => ?step) (fun _ _ => Out.esc_ret _) ?fin (Out.esc_ex _ _), goF_any]
    case step =>
      have hg : s.getD i 0 = s[i] := by rw [List.getD_eq_getElem?_getD, List.getElem?_eq_getElem hi]; rfl
      have d : decide ((i : Int) < (s.length : Int)) = true := decide_eq_true (by omega)
      have c : 0 ≤ (i : Int) ∧ (i : Int) < (s.length : Int) := by omega
      simp only [E_spec_NameOkL1, zz0, zz1, zb, zi, zs, Int.toNat_natCast, hg, d, c, if_true, and_self, decide_true, spec_l03Letter, spec_l03Figure, zr]
      rcases zt (letr s[i]) with h1 | h1 <;> rcases zt (s[i] == 95) with h2 | h2 <;> rcases zt (isFig s[i]) with h3 | h3 <;> simp [nmC, h1, h2, h3, wrap_succ hi (show s.length ≤ 9223372036854775807 by omega)]
    case fin => simp [E_spec_NameOkL1]
  rw [show (s.any fun x => !nmC x) = !(s.all nmC) by rw [List.not_all_eq_any_not]] at hl
  unfold nameOk
  cases s with
  | nil => simp [E_spec_NameOk]
  | cons a l =>
    have hz : (((a :: l).length : Int) == 0) = false := beq_eq_false_iff_ne.2 (by rw [List.length_cons]; omega)
    have h0 : 0 ≤ (0 : Int) ∧ (0 : Int) < ((a :: l).length : Int) := by simp
    have hg : (a :: l).getD (0 : Int).toNat 0 = a := rfl
    have hp : decide (0 < (a :: l).length) = true := by simp
    have hd : decide (((a :: l).length : Int) > 30) = !decide ((a :: l).length ≤ 30) := by
      rw [Bool.eq_iff_iff, Bool.not_eq_true', decide_eq_true_eq, decide_eq_false_iff_not]; omega
    have hg2 : (a :: l).getD 0 0 = a := rfl
    simp only [E_spec_NameOk, zz0, zz1, zb, zi, zs, hz, h0, hg, hp, hd, spec_l03Figure, zr, zf, if_false, if_true, and_self, Bool.true_and]
    generalize (a :: l).all nmC = q at *
    cases decide ((a :: l).length ≤ 30) with
    | false => simp
    | true =>
      cases isFig a with
      | true => simp
      | false =>
        simp only [Bool.not_true, zf, if_false, Out.andThen_norm, zz0, zz1, zb, zs, hl]
        cases q <;> simp
theorem impl_NameOk (s : List UInt8) (hs : s.length ≤ 1048576) : r_impl_NameOk [.s s] = .ret [.b (nameOk s)] := by
  rw [eq_impl_NameOk]
  have hl : Loop E_impl_NameOkL1 [.s s, .i (s.length : Int), .i 0] = if (s.any fun x => !nmC x) = true then .ret [.b false] else .ex 0 [] := by
    rw [show (0 : Int) = ((0 : Nat) : Int) from rfl, Loop_find0 (l := s) (st := fun i => [.s s, .i (s.length : Int), .i (i : Int)]) (p := fun x => !nmC x) (stop := fun i _ => .ret [.b false]) (fin := .ex 0 []) (fun i hi => ?step) (fun _ _ => Out.esc_ret _) ?fin (Out.esc_ex _ _), goF_any]
    case step =>
      have hg : s.getD i 0 = s[i] := by rw [List.getD_eq_getElem?_getD, List.getElem?_eq_getElem hi]; rfl
      have d : decide ((i : Int) < (s.length : Int)) = true := decide_eq_true (by omega)
      have c : 0 ≤ (i : Int) ∧ (i : Int) < (s.length : Int) := by omega
      simp only [E_impl_NameOkL1, zz0, zz1, zb, zi, zs, Int.toNat_natCast, hg, d, c, if_true, and_self, decide_true, impl_inName, zr]
      cases nmC s[i] <;> simp [wrap_succ hi (show s.length ≤ 9223372036854775807 by omega)]
    case fin => simp [E_impl_NameOkL1]
  rw [show (s.any fun x => !nmC x) = !(s.all nmC) by rw [List.not_all_eq_any_not]] at hl
  unfold nameOk
  cases s with
  | nil =>
    simp only [E_impl_NameOk, zz0, zs, impl_in]
    simp
  | cons a l =>
    have h0 : 0 ≤ (0 : Int) ∧ (0 : Int) < ((a :: l).length : Int) := by simp
    have hg : (a :: l).getD (0 : Int).toNat 0 = a := rfl
    have hp : decide (0 < (a :: l).length) = true := by simp
    have hp2 : decide ((1 : Int) ≤ ((a :: l).length : Int)) = true := decide_eq_true (by rw [List.length_cons]; omega)
    have hd : decide (((a :: l).length : Int) ≤ 30) = decide ((a :: l).length ≤ 30) := by
      rw [Bool.eq_iff_iff, decide_eq_true_eq, decide_eq_true_eq]; omega
    have hg2 : (a :: l).getD 0 0 = a := rfl
    simp only [E_impl_NameOk, zz0, zz1, zb, zi, zs, impl_in, h0, hg, hp, hp2, hd, impl_isFigure, zr, zf, if_false, if_true, and_self, Bool.true_and]
    generalize (a :: l).all nmC = q at *
    cases decide ((a :: l).length ≤ 30) with
    | false => simp
    | true =>
      cases isFig a with
      | true => simp
      | false =>
        simp only [Bool.not_true, zf, if_false, Out.andThen_norm, zz0, zz1, zb, zs, hl]
        cases q <;> simp
def word (s : List UInt8) : Bool := s == [116, 114, 117, 101] || (s == [102, 97, 108, 115, 101] || s == [110, 117, 108, 108])
theorem spec_Word (s : List UInt8) : r_spec_Word [.s s] = .ret [.b (word s)] := by
  rw [eq_spec_Word]
  simp only [E_spec_Word, zz0, zs, word]
  cases s == [116, 114, 117, 101] <;> cases s == [102, 97, 108, 115, 101] <;> simp
theorem impl_Word (s : List UInt8) : r_impl_Word [.s s] = .ret [.b (word s)] := by
  rw [eq_impl_Word]
  simp only [E_impl_Word, zz0, zs, word]
  cases s == [116, 114, 117, 101] <;> cases s == [102, 97, 108, 115, 101] <;> simp
def wr (c : UInt8) : Bool := c == 93 || c == 33
def adj : List UInt8 → Bool
  | [] => false
  | a :: l => (a == 33 && l.head? == some 33) || adj l
def wrapsOk (w : List UInt8) : Bool := w.all wr && !adj w
def typeOk (n w : List UInt8) : Bool := nameOk n && (decide (w.length ≤ 8) && wrapsOk w)
theorem contains_adj : ∀ w : List UInt8, Lib.contains w [33, 33] = adj w
  | [] => rfl
  | a :: l => by
    have ih := contains_adj l
    unfold Lib.contains at *
    rw [Lib.index, adj, ← ih]
    have hp : [33, 33].isPrefixOf (a :: l) = (a == 33 && l.head? == some 33) := by
      cases l with
      | nil => simp [List.isPrefixOf]
      | cons b l =>
        simp only [List.isPrefixOf, Bool.and_true, List.head?_cons]
        have cm : ∀ c : UInt8, ((33 : UInt8) == c) = (c == 33) := fun c => by rw [Bool.eq_iff_iff, beq_iff_eq, beq_iff_eq]; exact ⟨Eq.symm, Eq.symm⟩
        rw [cm, cm]
        rfl
    rw [hp]
    cases (a == 33 && l.head? == some 33) with
    | true => simp
    | false =>
      simp only [zf, if_false, Bool.false_or]
      have hge := Lib.index_ge l [33, 33]
      by_cases h : Lib.index l [33, 33] = -1
      · rw [h]; rfl
      · rw [beq_eq_false_iff_ne.2 h]
        simp only [zf, if_false]
        rw [Bool.eq_iff_iff, decide_eq_true_eq, decide_eq_true_eq]
        omega
theorem dw_nil {f : UInt8 → Bool} : ∀ {l : List UInt8}, l.dropWhile f = [] ↔ l.all f = true
  | [] => by simp
  | x :: l => by
    rw [List.dropWhile_cons, List.all_cons]
    cases hf : f x with
    | true => simp [dw_nil (f := f) (l := l)]
    | false => simp
theorem trim_nil (w : List UInt8) : (Lib.trimS w [93, 33] == []) = w.all wr := by
  have hc : ∀ c : UInt8, [93, 33].contains c = wr c := fun c => by
    simp only [List.contains, List.elem, wr]
    cases c == 93 <;> cases c == 33 <;> rfl
  have hw : (fun c : UInt8 => [93, 33].contains c) = wr := funext hc
  rw [Bool.eq_iff_iff, beq_iff_eq]
  unfold Lib.trimS Lib.trimLeftS Lib.trimRightS
  rw [hw, dw_nil]
  constructor
  · intro h
    have h2 : w.reverse.dropWhile wr = [] := by
      cases hd : w.reverse.dropWhile wr with
      | nil => rfl
      | cons c r =>
        have h1 := dw_head wr w.reverse c (by rw [hd]; rfl)
        rw [hd] at h
        have := List.all_eq_true.1 h c (by simp)
        rw [h1] at this
        exact absurd this (by simp)
    have := dw_nil.1 h2
    rw [List.all_eq_true] at this ⊢
    exact fun x hx => this x (List.mem_reverse.2 hx)
  · intro h
    have : w.reverse.dropWhile wr = [] := dw_nil.2 (by
      rw [List.all_eq_true] at h ⊢
      exact fun x hx => h x (List.mem_reverse.1 hx))
    rw [this]
    rfl
theorem impl_TypeOk (n w : List UInt8) (hn : n.length ≤ 1048576) (hw : w.length ≤ 1048576) : r_impl_TypeOk [.s n, .s w] = .ret [.b (typeOk n w)] := by
  rw [eq_impl_TypeOk]
  have ht : r_strings_Trim [.s w, .s [93, 33]] = .ret [.s (Lib.trimS w [93, 33])] := by
    rw [eq_strings_Trim]
    unfold E_strings_Trim primH
    have hh : hintLit [.s, .s] h_strings_Trim = true := rfl
    have hq : qTrim [.s w, .s [93, 33]] = some [.s (Lib.trimS w [93, 33])] := by
      unfold qTrim
      simp only
      rw [if_pos ⟨by omega, by decide, by decide⟩]
    rw [hh, hq]
    rfl
  have hc : r_strings_Contains [.s w, .s [33, 33]] = .ret [.b (Lib.contains w [33, 33])] := by
    rw [eq_strings_Contains]
    unfold E_strings_Contains primH
    have hh : hintLit [.s, .s] h_strings_Contains = true := rfl
    have hq : qContains [.s w, .s [33, 33]] = some [.b (Lib.contains w [33, 33])] := by
      unfold qContains
      simp only
      rw [if_pos (by omega)]
    rw [hh, hq]
    rfl
  have hd : decide ((w.length : Int) ≤ 8) = decide (w.length ≤ 8) := by rw [Bool.eq_iff_iff, decide_eq_true_eq, decide_eq_true_eq]; omega
  simp only [E_impl_TypeOk, zz0, zz1, zb, zs, impl_NameOk n hn, ht, hc, hd, zr, trim_nil, contains_adj, typeOk, wrapsOk]
  cases nameOk n <;> cases decide (w.length ≤ 8) <;> cases w.all wr <;> simp
def chk : UInt8 → List UInt8 → Bool
  | _, [] => false
  | x, c :: w => (!wr c || (c == 33 && x == 33)) || chk c w
theorem chk_eq : ∀ (w : List UInt8) (x : UInt8), chk x w = !(w.all wr && !((x == 33 && w.head? == some 33) || adj w))
  | [], x => by simp [chk, adj]
  | c :: w, x => by
    rw [chk, chk_eq w c, List.all_cons, adj, List.head?_cons]
    have e : (some c == some (33 : UInt8)) = (c == 33) := rfl
    rw [e]
    cases wr c <;> cases c == 33 <;> cases x == 33 <;> cases w.all wr <;> cases w.head? == some 33 <;> cases adj w <;> rfl
theorem spec_TypeOk (n w : List UInt8) (hn : n.length ≤ 1048576) (hw : w.length ≤ 1048576) : r_spec_TypeOk [.s n, .s w] = .ret [.b (typeOk n w)] := by
  rw [eq_spec_TypeOk]
  have hd : decide ((w.length : Int) > 8) = !decide (w.length ≤ 8) := by rw [Bool.eq_iff_iff, Bool.not_eq_true', decide_eq_true_eq, decide_eq_false_iff_not]; omega
  have hlp : Loop E_spec_TypeOkL1 [.i 0, .s n, .s w] = if chk 0 w = true then .ret [.b false] else .ex 0 [] := by
    have hz : ((0 :: w).zip w).length = w.length := by rw [List.length_zip, List.length_cons]; omega
    rw [show (0 : Int) = ((0 : Nat) : Int) from rfl, Loop_find0 (l := (0 :: w).zip w) (st := fun i => [.i (i : Int), .s n, .s w]) (p := fun x => !wr x.2 || (x.2 == 33 && x.1 == 33)) (stop := fun i _ => .ret [.b false]) (fin := .ex 0 []) (fun i hi => ?step) (fun _ _ => Out.esc_ret _) ?fin (Out.esc_ex _ _), goF_any]
    · have : ∀ (w : List UInt8) (x : UInt8), ((x :: w).zip w).any (fun x => !wr x.2 || (x.2 == 33 && x.1 == 33)) = chk x w := by
        intro w
        induction w with
        | nil => intro x; rfl
        | cons c w ih => intro x; rw [List.zip_cons_cons, List.any_cons, ih c, chk]
      rw [this]
    case step =>
      have hi2 : i < w.length := by omega
      have hz1 : ((0 :: w).zip w)[i] = ((0 :: w)[i]'(by rw [List.length_cons]; omega), w[i]) := List.getElem_zip
      have hg : w.getD i 0 = w[i] := by rw [List.getD_eq_getElem?_getD, List.getElem?_eq_getElem hi2]; rfl
      have d : decide ((i : Int) < (w.length : Int)) = true := decide_eq_true (by omega)
      have c : 0 ≤ (i : Int) ∧ (i : Int) < (w.length : Int) := by omega
      have ws := wrap_succ hi2 (show w.length ≤ 9223372036854775807 by omega)
      have u1 : ((w[i].toNat : Int) != 33) = !(w[i] == 33) := congrArg (!·) (u8_eq w[i] 33 (by omega))
      have u2 : ((w[i].toNat : Int) != 93) = !(w[i] == 93) := congrArg (!·) (u8_eq w[i] 93 (by omega))
      have u3 : ((w[i].toNat : Int) == 33) = (w[i] == 33) := u8_eq w[i] 33 (by omega)
      rw [hz1]
      simp only [E_spec_TypeOkL1, zz0, zz1, zb, zi, zs, Int.toNat_natCast, hg, d, c, ws, u1, u2, u3, if_true, and_self, decide_true, wr]
      by_cases h0 : 0 < i
      · have dz : decide ((i : Int) > 0) = true := decide_eq_true (by omega)
        have wz : IntKind.i64.wrap ((i : Int) - 1) = ((i - 1 : Nat) : Int) := by rw [wrap64 (by omega) (by omega)]; omega
        have c1 : 0 ≤ ((i - 1 : Nat) : Int) ∧ ((i - 1 : Nat) : Int) < (w.length : Int) := by omega
        have hp : (0 :: w)[i]'(by rw [List.length_cons]; omega) = w.getD (i - 1) 0 := by
          obtain ⟨k, rfl⟩ : ∃ k, i = k + 1 := ⟨i - 1, by omega⟩
          rw [List.getElem_cons_succ, List.getD_eq_getElem?_getD, List.getElem?_eq_getElem (by omega)]
          rfl
        rw [hp]
        have u4 : (((w.getD (i - 1) 0).toNat : Int) == 33) = (w.getD (i - 1) 0 == 33) := u8_eq _ 33 (by omega)
        simp only [dz, wz, c1, u4, and_self, if_true, Int.toNat_natCast]
        rcases zt (w[i] == 33) with a1 | a1 <;> rcases zt (w[i] == 93) with a2 | a2 <;> rcases zt (w.getD (i - 1) 0 == 33) with a3 | a3 <;> simp only [a1, a2, a3, Bool.not_true, Bool.not_false, zf, if_true, if_false, Out.andThen_norm, Out.andThenB_norm, zz0, zz1, zb, zi, zs, Bool.or_true, Bool.or_false, Bool.true_or, Bool.false_or, Bool.and_true, Bool.and_false, Bool.true_and, Bool.false_and, ws] <;> rfl
      · have h00 : i = 0 := by omega
        subst h00
        have dz : decide (((0 : Nat) : Int) > 0) = false := by decide
        have hp : (0 :: w)[0]'(by simp) = 0 := rfl
        rw [hp]
        have z3 : ((0 : UInt8) == 33) = false := rfl
        simp only [dz, zf, if_false, z3]
        rcases zt (w[0] == 33) with a1 | a1 <;> rcases zt (w[0] == 93) with a2 | a2 <;> simp only [a1, a2, Bool.not_true, Bool.not_false, zf, if_true, if_false, Out.andThen_norm, Out.andThenB_norm, zz0, zz1, zb, zi, zs, Bool.or_true, Bool.or_false, Bool.true_or, Bool.false_or, Bool.and_true, Bool.and_false, Bool.true_and, Bool.false_and, ws] <;> rfl
    case fin => rw [hz]; simp [E_spec_TypeOkL1]
  rw [chk_eq] at hlp
  have z3 : ((0 : UInt8) == 33) = false := rfl
  rw [z3] at hlp
  simp only [Bool.false_and, Bool.false_or] at hlp
  simp only [E_spec_TypeOk, zz0, zz1, zb, zs, spec_NameOk n hn, hd, zr, typeOk]
  unfold wrapsOk
  generalize (w.all wr && !adj w) = q at *
  cases nameOk n with
  | false => simp
  | true =>
    cases decide (w.length ≤ 8) with
    | false => simp
    | true =>
      simp only [Bool.not_true, zf, if_false, Out.andThen_norm, zz0, zz1, zb, zs, hlp]
      cases q <;> simp
open Classical in
noncomputable def goodV (room : Int) (v : TValue) : Bool := decide (r_spec_l07Right [.i v.kind, .s v.text, .sl (v.items.map TValue.enc), .sl (v.names.map S1), .i room] = .ret [.b true])
def sameV (room : Int) (v : TValue) : Prop := r_spec_l07Right [.i v.kind, .s v.text, .sl (v.items.map TValue.enc), .sl (v.names.map S1), .i room] = .ret [.b (goodV room v)] ∧
  r_impl_valueOk [.i v.kind, .s v.text, .sl (v.items.map TValue.enc), .sl (v.names.map S1), .i room] = .ret [.b (goodV room v)]
theorem sameV_of {room : Int} {v : TValue} (b : Bool) (h1 : r_spec_l07Right [.i v.kind, .s v.text, .sl (v.items.map TValue.enc), .sl (v.names.map S1), .i room] = .ret [.b b])
    (h2 : r_impl_valueOk [.i v.kind, .s v.text, .sl (v.items.map TValue.enc), .sl (v.names.map S1), .i room] = .ret [.b b]) : sameV room v := by
  have : goodV room v = b := by
    unfold goodV
    rw [h1]
    cases b <;> simp
  unfold sameV
  rw [this]
  exact ⟨h1, h2⟩
theorem val_loop6 (room K : Int) (hK : K ≠ 8) (T : List UInt8) (I : List TValue) (N : List (List DC)) (hI : I.length ≤ 1048576) (hr : 0 < room) (hr2 : room ≤ 10) (h : ∀ x ∈ I, sameV (room - 1) x) :
    Loop E_spec_l07RightL1 [.i room, .i 0, .i K, .s T, .sl (I.map TValue.enc), .sl N] = if I.all (goodV (room - 1)) = true then .ex 0 [] else .ret [.b false] := by
  rw [show (0 : Int) = ((0 : Nat) : Int) from rfl, Loop_find0 (l := I) (st := fun i => [.i room, .i (i : Int), .i K, .s T, .sl (I.map TValue.enc), .sl N]) (p := fun x => !goodV (room - 1) x) (stop := fun i _ => .ret [.b false]) (fin := .ex 0 []) (fun i hi => ?step) (fun _ _ => Out.esc_ret _) ?fin (Out.esc_ex _ _), goF_any]
  · have e : (I.any fun x => !goodV (room - 1) x) = !(I.all (goodV (room - 1))) := by rw [List.not_all_eq_any_not]
    rw [e]
    cases I.all (goodV (room - 1)) <;> simp
  case step =>
    have hx := (h I[i] (List.getElem_mem hi)).1
    have w : IntKind.i64.wrap (room - 1) = room - 1 := wrap64 (by omega) (by omega)
    have hk : (K == 8) = false := beq_eq_false_iff_ne.2 hK
    have c : 0 ≤ (i : Int) ∧ (i : Int) < (I.length : Int) := by omega
    have d : decide ((i : Int) < (I.length : Int)) = true := decide_eq_true (by omega)
    simp only [E_spec_l07RightL1, zz0, zz1, zb, zi, zs, zl, Int.toNat_natCast, zm, map_getD hi, TValue.enc_eq, hk, d, c, w, hx, zr, Out.andThen_norm, true_and, and_self, zf, if_false, if_true, decide_true]
    cases goodV (room - 1) I[i] <;> simp [wrap_succ hi (show I.length ≤ 9223372036854775807 by omega)]
  case fin => simp [E_spec_l07RightL1]
theorem val_loop7 (room : Int) (T : List UInt8) (I : List TValue) (N : List (List UInt8)) (hI : I.length ≤ 1048576) (hN : N.length = I.length) (hns : ∀ n ∈ N, n.length ≤ 1048576) (hr : 0 < room) (hr2 : room ≤ 10) (h : ∀ x ∈ I, sameV (room - 1) x) :
    Loop E_spec_l07RightL1 [.i room, .i 0, .i 8, .s T, .sl (I.map TValue.enc), .sl (N.map S1)] = if (I.all (goodV (room - 1)) && N.all nameOk) = true then .ex 0 [] else .ret [.b false] := by
  have hzl : (I.zip N).length = I.length := by rw [List.length_zip]; omega
  rw [show (0 : Int) = ((0 : Nat) : Int) from rfl, Loop_find0 (l := I.zip N) (st := fun i => [.i room, .i (i : Int), .i 8, .s T, .sl (I.map TValue.enc), .sl (N.map S1)]) (p := fun x => !nameOk x.2 || !goodV (room - 1) x.1) (stop := fun i _ => .ret [.b false]) (fin := .ex 0 []) (fun i hi => ?step) (fun _ _ => Out.esc_ret _) ?fin (Out.esc_ex _ _), goF_any]
  · have e : ∀ (I : List TValue) (N : List (List UInt8)), N.length = I.length → ((I.zip N).any fun x => !nameOk x.2 || !goodV (room - 1) x.1) = !(I.all (goodV (room - 1)) && N.all nameOk) := by
      intro I
      induction I with
      | nil =>
        intro N hl
        cases N with
        | nil => rfl
        | cons _ _ => simp at hl
      | cons x I ih =>
        intro N hl
        cases N with
        | nil => simp at hl
        | cons n N =>
          rw [List.zip_cons_cons, List.any_cons, ih N (by simpa using hl), List.all_cons, List.all_cons]
          cases goodV (room - 1) x <;> cases nameOk n <;> cases I.all (goodV (room - 1)) <;> cases N.all nameOk <;> rfl
    rw [e I N hN]
    cases (I.all (goodV (room - 1)) && N.all nameOk) <;> simp
  case step =>
    have hi1 : i < I.length := by omega
    have hi2 : i < N.length := by omega
    have hx := (h I[i] (List.getElem_mem hi1)).1
    have hz : (I.zip N)[i] = (I[i], N[i]) := List.getElem_zip
    have w : IntKind.i64.wrap (room - 1) = room - 1 := wrap64 (by omega) (by omega)
    have c : 0 ≤ (i : Int) ∧ (i : Int) < (I.length : Int) := by omega
    have c2 : 0 ≤ (i : Int) ∧ (i : Int) < (N.length : Int) := by omega
    have d : decide ((i : Int) < (I.length : Int)) = true := decide_eq_true (by omega)
    have he := spec_NameOk N[i] (hns _ (List.getElem_mem hi2))
    simp only [E_spec_l07RightL1, zz0, zz1, zb, zi, zs, zl, Int.toNat_natCast, zm, map_getD hi1, map_getD hi2, S1, TValue.enc_eq, d, c, c2, w, hx, hz, he, zr, Out.andThen_norm, true_and, and_self, zf, if_false, if_true, decide_true, beq_self_eq_true]
    cases nameOk N[i] <;> cases goodV (room - 1) I[i] <;> simp [wrap_succ hi1 (show I.length ≤ 9223372036854775807 by omega)]
  case fin => simp [E_spec_l07RightL1, hzl]
theorem val_names (N : List (List UInt8)) (hl : N.length ≤ 1048576) (hns : ∀ n ∈ N, n.length ≤ 1048576) : r_slices_ContainsFunc_string__impl_valueOk_1 [.sl (N.map S1)] = .ret [.b (!(N.all nameOk))] := by
  rw [eq_slices_ContainsFunc_string__impl_valueOk_1]
  simp only [E_slices_ContainsFunc_string__impl_valueOk_1, zz0, zl]
  rw [eq_slices_IndexFunc_string__impl_valueOk_1]
  simp only [E_slices_IndexFunc_string__impl_valueOk_1, zz0, zl, zm]
  rw [show (0 : Int) = ((0 : Nat) : Int) from rfl, Loop_find0 (l := N) (st := fun i => [.sl (N.map S1), .i (N.length : Int), .i (i : Int)]) (p := fun n => !nameOk n) (stop := fun i _ => .ret [.i (i : Int)]) (fin := .ex 0 []) (fun i hi => ?step) (fun _ _ => Out.esc_ret _) ?fin (Out.esc_ex _ _), goF_idx]
  · rw [List.not_all_eq_any_not]
    cases hf : N.findIdx? fun n => !nameOk n with
    | none =>
      have : (N.any fun n => !nameOk n) = false := by
        rw [List.any_eq_false]
        intro x hx
        have := List.findIdx?_eq_none_iff.1 hf x hx
        simpa using this
      rw [this]
      simp
    | some j =>
      obtain ⟨hj, h1, h2⟩ := List.findIdx?_eq_some_iff_getElem.1 hf
      have : (N.any fun n => !nameOk n) = true := List.any_eq_true.2 ⟨N[j], List.getElem_mem hj, h1⟩
      rw [this]
      simp [hj]
  case step =>
    have c2 : 0 ≤ (i : Int) ∧ (i : Int) < (N.length : Int) := by omega
    have d : decide ((i : Int) < (N.length : Int)) = true := decide_eq_true (by omega)
    have he : r_impl_valueOk_1 [.s N[i]] = .ret [.b (!nameOk N[i])] := by
      rw [eq_impl_valueOk_1]
      simp only [E_impl_valueOk_1, zz0, zs, impl_NameOk _ (hns _ (List.getElem_mem hi)), zr, zb]
    simp only [E_slices_IndexFunc_string__impl_valueOk_1L1, zz0, zz1, zb, zi, zs, zl, Int.toNat_natCast, zm, map_getD hi, S1, d, c2, he, zr, true_and, and_self, if_true]
    cases nameOk N[i] <;> simp [wrap_succ hi (show N.length ≤ 9223372036854775807 by omega)]
  case fin => simp [E_slices_IndexFunc_string__impl_valueOk_1L1]
theorem val_items (room : Int) (I : List TValue) (hl : I.length ≤ 1048576) (hr : 0 < room) (hr2 : room ≤ 10) (h : ∀ x ∈ I, sameV (room - 1) x) : r_slices_ContainsFunc_impl_Value__impl_valueOk_2 [.sl (I.map TValue.enc), .i room] = .ret [.b (!(I.all (goodV (room - 1)))), .i room] := by
  rw [eq_slices_ContainsFunc_impl_Value__impl_valueOk_2]
  simp only [E_slices_ContainsFunc_impl_Value__impl_valueOk_2, zz0, zz1, zl, zi]
  rw [eq_slices_IndexFunc_impl_Value__impl_valueOk_2]
  simp only [E_slices_IndexFunc_impl_Value__impl_valueOk_2, zz0, zz1, zl, zi, zm]
  rw [show (0 : Int) = ((0 : Nat) : Int) from rfl, Loop_find0 (l := I) (st := fun i => [.sl (I.map TValue.enc), .i (I.length : Int), .i (i : Int), .i room]) (p := fun n => !goodV (room - 1) n) (stop := fun i _ => .ret [.i (i : Int), .i room]) (fin := .ex 0 [.i room]) (fun i hi => ?step) (fun _ _ => Out.esc_ret _) ?fin (Out.esc_ex _ _), goF_idx]
  · rw [List.not_all_eq_any_not]
    cases hf : I.findIdx? fun n => !goodV (room - 1) n with
    | none =>
      have : (I.any fun n => !goodV (room - 1) n) = false := by
        rw [List.any_eq_false]
        intro x hx
        have := List.findIdx?_eq_none_iff.1 hf x hx
        simpa using this
      rw [this]
      simp
    | some j =>
      obtain ⟨hj, h1, h2⟩ := List.findIdx?_eq_some_iff_getElem.1 hf
      have : (I.any fun n => !goodV (room - 1) n) = true := List.any_eq_true.2 ⟨I[j], List.getElem_mem hj, h1⟩
      rw [this]
      simp [hj]
  case step =>
    have c2 : 0 ≤ (i : Int) ∧ (i : Int) < (I.length : Int) := by omega
    have d : decide ((i : Int) < (I.length : Int)) = true := decide_eq_true (by omega)
    have hx := (h I[i] (List.getElem_mem hi)).2
    have w : IntKind.i64.wrap (room - 1) = room - 1 := wrap64 (by omega) (by omega)
    have he : r_impl_valueOk_2 [.i I[i].kind, .s I[i].text, .sl (I[i].items.map TValue.enc), .sl (I[i].names.map S1), .i room] = .ret [.b (!goodV (room - 1) I[i]), .i room] := by
      rw [eq_impl_valueOk_2]
      simp only [E_impl_valueOk_2, zz0, zz1, zi, zs, zl, w, hx, zr, zb]
    simp only [E_slices_IndexFunc_impl_Value__impl_valueOk_2L1, zz0, zz1, zb, zi, zs, zl, Int.toNat_natCast, zm, map_getD hi, TValue.enc_eq, d, c2, he, zr, true_and, and_self, if_true]
    cases goodV (room - 1) I[i] <;> simp [wrap_succ hi (show I.length ≤ 9223372036854775807 by omega)]
  case fin => simp [E_slices_IndexFunc_impl_Value__impl_valueOk_2L1]
theorem val_wsum (v : TValue) : wtL v.enc = v.text.length + (DC.wt (.sl (v.items.map TValue.enc)) + DC.wt (.sl (v.names.map S1))) := by
  rw [TValue.enc_eq]
  simp only [wtL, DC.wt]
  omega
theorem strs_len {l : List (List UInt8)} (h : DC.wt (.sl (l.map S1)) ≤ 1048576) : l.length ≤ 1048576 ∧ ∀ n ∈ l, n.length ≤ 1048576 := by
  rw [DC.wt, zm] at h
  refine ⟨by omega, fun n hn => ?_⟩
  have := wtV_mem (List.mem_map_of_mem (f := S1) hn)
  have e : wtL (S1 n) = n.length := by simp [S1, wtL, DC.wt]
  omega
theorem val_loop0 (room K : Int) (T : List UInt8) (N : List (List DC)) : Loop E_spec_l07RightL1 [.i room, .i 0, .i K, .s T, .sl [], .sl N] = .ex 0 [] := Loop_ex (by simp [E_spec_l07RightL1])
def oneV (K : Int) (T : List UInt8) : Bool := (K == 1 && nameOk T) || ((K == 2 && intOk T) || ((K == 3 && floatI T) || ((K == 4 && !(escaped T == [])) || ((K == 5 && word T) || ((K == 6 && (nameOk T && !word T)) || ((K == 7 || K == 8) && T == []))))))
theorem spec_One (K : Int) (T : List UInt8) (I N : List (List DC)) (hT : T.length ≤ 1048576) : r_spec_l07One [.i K, .s T, .sl I, .sl N] = .ret [.b (oneV K T)] := by
  rw [eq_spec_l07One]
  simp only [E_spec_l07One, zz0, zz1, zi, zs, zl, zb, spec_NameOk T hT, spec_IntOk T hT, spec_FloatOk T hT, spec_Escaped T hT, spec_Word, float_eq, zr]
  unfold oneV
  by_cases k1 : K = 1
  · subst k1; simp
  by_cases k2 : K = 2
  · subst k2; simp
  by_cases k3 : K = 3
  · subst k3; simp
  by_cases k4 : K = 4
  · subst k4; simp
  by_cases k5 : K = 5
  · subst k5; simp
  by_cases k6 : K = 6
  · subst k6; cases nameOk T <;> simp
  by_cases k7 : K = 7
  · subst k7; simp
  by_cases k8 : K = 8
  · subst k8; simp
  simp [k1, k2, k3, k4, k5, k6, k7, k8]
theorem impl_plain (K : Int) (T : List UInt8) (I N : List (List DC)) : r_impl_plain [.i K, .s T, .sl I, .sl N] = .ret [.b (I.isEmpty && N.isEmpty)] := by
  rw [eq_impl_plain]
  have z1 : ∀ n : Nat, ((n : Int) + 1 = 0) = False := fun n => by simp; omega
  have z2 : ∀ n : Nat, ((n : Int) + 1 == 0) = false := fun n => beq_eq_false_iff_ne.2 (by omega)
  cases I <;> cases N <;> simp [E_impl_plain, z1, z2]
set_option maxHeartbeats 4000000 in
theorem val_small (v : TValue) (hw : wtL v.enc ≤ 1048576) (room : Int) (h7 : v.kind ≠ 7) (h8 : v.kind ≠ 8) : sameV room v := by
  rw [val_wsum] at hw
  have hT : v.text.length ≤ 1048576 := by omega
  have hone := spec_One v.kind v.text (v.items.map TValue.enc) (v.names.map S1) hT
  have hpl := impl_plain v.kind v.text (v.items.map TValue.enc) (v.names.map S1)
  have a1 := impl_NameOk v.text hT
  have a2 := impl_IntOk v.text hT
  have a3 := impl_FloatOk v.text hT
  have a4 := impl_Escaped v.text hT
  have a5 := impl_Word v.text
  obtain ⟨K, T, I, N⟩ := v
  simp only at *
  have z1 : ∀ n : Nat, ((n : Int) + 1 = 0) = False := fun n => by simp; omega
  have z2 : ∀ n : Nat, ((n : Int) + 1 == 0) = false := fun n => beq_eq_false_iff_ne.2 (by omega)
  have b7 : (K == 7) = false := beq_eq_false_iff_ne.2 h7
  have b8 : (K == 8) = false := beq_eq_false_iff_ne.2 h8
  refine sameV_of (oneV K T && (I.isEmpty && N.isEmpty)) ?_ ?_
  · rw [eq_spec_l07Right]
    generalize oneV K T = q at *
    cases q <;> cases I <;> cases N <;> simp at hone <;> simp [E_spec_l07Right, hone, val_loop0, h7, h8, b7, b8, z1, z2]
  · rw [eq_impl_valueOk]
    have hpl2 : r_impl_plain [.i K, .s T, .sl (I.map TValue.enc), .sl (N.map S1)] = .ret [.b (I.isEmpty && N.isEmpty)] := by
      rw [hpl]; cases I <;> cases N <;> rfl
    simp only [E_impl_valueOk, zz0, zz1, zi, zs, zl, zb, hpl2, a1, a2, a3, a4, a5, zr]
    generalize (I.isEmpty && N.isEmpty) = p
    unfold oneV
    by_cases k1 : K = 1
    · subst k1; cases p <;> simp
    by_cases k2 : K = 2
    · subst k2; cases p <;> simp
    by_cases k3 : K = 3
    · subst k3; cases p <;> simp
    by_cases k4 : K = 4
    · subst k4; cases p <;> simp
    by_cases k5 : K = 5
    · subst k5; cases p <;> simp
    by_cases k6 : K = 6
    · subst k6; cases p <;> cases nameOk T <;> simp
    simp [k1, k2, k3, k4, k5, k6, h7, h8]
set_option maxHeartbeats 2000000 in
theorem val_node (v : TValue) (hw : wtL v.enc ≤ 1048576) (room : Int) (hr : 0 ≤ room) (hr2 : room ≤ 10) (h : 0 < room → ∀ x ∈ v.items, sameV (room - 1) x) : sameV room v := by
  by_cases h78 : v.kind ≠ 7 ∧ v.kind ≠ 8
  · exact val_small v hw room h78.1 h78.2
  rw [val_wsum] at hw
  obtain ⟨hNl, hNs⟩ := strs_len (l := v.names) (by omega)
  have hIl : v.items.length ≤ 1048576 := by rw [DC.wt, zm] at hw; omega
  have hT : v.text.length ≤ 1048576 := by omega
  have hone := spec_One v.kind v.text (v.items.map TValue.enc) (v.names.map S1) hT
  have hn := val_names v.names hNl hNs
  obtain ⟨K, T, I, N⟩ := v
  simp only at *
  have z1 : ∀ n : Nat, ((n : Int) + 1 = 0) = False := fun n => by simp; omega
  have z2 : ∀ n : Nat, ((n : Int) + 1 == 0) = false := fun n => beq_eq_false_iff_ne.2 (by omega)
  by_cases k7 : K = 7
  · subst k7
    have ho : oneV 7 T = (T == []) := by unfold oneV; simp
    rw [ho] at hone
    rcases Int.lt_or_le 0 room with hp | hp
    · have hr0 : (room == 0) = false := beq_eq_false_iff_ne.2 (by omega)
      have hr1 : ¬ room = 0 := by omega
      have hlp := val_loop6 room 7 (by decide) T I (N.map S1) hIl hp hr2 (h hp)
      have hit := val_items room I hIl hp hr2 (h hp)
      refine sameV_of (T == [] && (N.isEmpty && I.all (goodV (room - 1)))) ?_ ?_
      · rw [eq_spec_l07Right]
        generalize I.all (goodV (room - 1)) = A at *
        cases T with
        | nil =>
          cases N with
          | nil =>
            simp at hone hlp
            simp [E_spec_l07Right, hone, z1, z2, hr0, hr1, hlp]
            cases A <;> simp
          | cons n N => simp at hone; simp [E_spec_l07Right, hone, z1, z2]
        | cons a T => simp at hone; simp [E_spec_l07Right, hone]
      · rw [eq_impl_valueOk]
        generalize I.all (goodV (room - 1)) = A at *
        cases T with
        | nil =>
          cases N with
          | nil =>
            simp [E_impl_valueOk, z1, z2, hp, hit]
          | cons n N => simp [E_impl_valueOk, z1, z2]
        | cons a T => cases N <;> simp [E_impl_valueOk, z1, z2, hp]
    · have hr0 : room = 0 := by omega
      subst hr0
      refine sameV_of false ?_ ?_
      · rw [eq_spec_l07Right]
        cases T <;> cases N <;> simp at hone <;> simp [E_spec_l07Right, hone, z1, z2]
      · rw [eq_impl_valueOk]
        cases T <;> cases N <;> simp [E_impl_valueOk, z1, z2]
  have k8 : K = 8 := by
    by_cases h8 : K = 8
    · exact h8
    · exact absurd ⟨k7, h8⟩ h78
  subst k8
  have ho : oneV 8 T = (T == []) := by unfold oneV; simp
  rw [ho] at hone
  by_cases hNI : N.length = I.length
  · have hb1 : ((N.length : Int) != (I.length : Int)) = false := by simp; omega
    rcases Int.lt_or_le 0 room with hp | hp
    · have hr0 : (room == 0) = false := beq_eq_false_iff_ne.2 (by omega)
      have hr1 : ¬ room = 0 := by omega
      have hlp := val_loop7 room T I N hIl hNI hNs hp hr2 (h hp)
      have hit := val_items room I hIl hp hr2 (h hp)
      refine sameV_of (T == [] && (I.all (goodV (room - 1)) && N.all nameOk)) ?_ ?_
      · rw [eq_spec_l07Right]
        generalize (I.all (goodV (room - 1)) && N.all nameOk) = A at *
        cases T with
        | nil =>
          simp at hone
          simp [E_spec_l07Right, hone, hr0, hr1, hb1, hNI]
          rw [hlp]
          cases A <;> simp
        | cons a T => simp at hone; simp [E_spec_l07Right, hone]
      · rw [eq_impl_valueOk]
        generalize I.all (goodV (room - 1)) = A at *
        generalize N.all nameOk = B at *
        cases B <;> cases T <;> simp at hn <;> simp [E_impl_valueOk, hn, hb1, hNI, hp, hit]
    · have hr0 : room = 0 := by omega
      subst hr0
      refine sameV_of false ?_ ?_
      · rw [eq_spec_l07Right]
        cases T <;> simp at hone <;> simp [E_spec_l07Right, hone, hb1, hNI]
      · rw [eq_impl_valueOk]
        generalize N.all nameOk = B at *
        cases B <;> cases T <;> simp at hn <;> simp [E_impl_valueOk, hn, hb1, hNI]
  · have hb1 : ((N.length : Int) != (I.length : Int)) = true := by simp; omega
    have hNI' : ¬ (N.length : Int) = (I.length : Int) := by omega
    refine sameV_of false ?_ ?_
    · rw [eq_spec_l07Right]
      cases T <;> simp at hone <;> simp [E_spec_l07Right, hone, hb1, hNI, hNI']
    · rw [eq_impl_valueOk]
      simp [E_impl_valueOk, hb1, hNI, hNI']
theorem val_same (v : TValue) : wtL v.enc ≤ 1048576 → ∀ room : Int, 0 ≤ room → room ≤ 10 → sameV room v := by
  induction v using TValue.ind with | h v ih =>
  intro hw room hr hr2
  refine val_node v hw room hr hr2 fun hp x hx => ih x hx ?_ (room - 1) (by omega) (by omega)
  rw [val_wsum] at hw
  have := wtV_mem (List.mem_map_of_mem (f := TValue.enc) hx)
  rw [DC.wt] at hw
  omega
theorem cf_impl_ArgsOk_1 (ok : TArg → Bool) (l : List TArg) (hl : l.length ≤ 1048576) (hc : ∀ x ∈ l, r_impl_ArgsOk_1 [.s x.name, .i x.value.kind, .s x.value.text, .sl (x.value.items.map TValue.enc), .sl (x.value.names.map S1)] = .ret [.b (!ok x)]) : r_slices_ContainsFunc_impl_Arg__impl_ArgsOk_1 [.sl (l.map TArg.enc)] = .ret [.b (!(l.all ok))] := by
  rw [eq_slices_ContainsFunc_impl_Arg__impl_ArgsOk_1]
  simp only [E_slices_ContainsFunc_impl_Arg__impl_ArgsOk_1, zz0, zl]
  rw [eq_slices_IndexFunc_impl_Arg__impl_ArgsOk_1]
  simp only [E_slices_IndexFunc_impl_Arg__impl_ArgsOk_1, zz0, zl, zm]
  rw [show (0 : Int) = ((0 : Nat) : Int) from rfl, Loop_find0 (l := l) (st := fun i => [.sl (l.map TArg.enc), .i (l.length : Int), .i (i : Int)]) (p := fun n => !ok n) (stop := fun i _ => .ret [.i (i : Int)]) (fin := .ex 0 []) (fun i hi => ?step) (fun _ _ => Out.esc_ret _) ?fin (Out.esc_ex _ _), goF_idx]
  · rw [List.not_all_eq_any_not]
    cases hf : l.findIdx? fun n => !ok n with
    | none =>
      have : (l.any fun n => !ok n) = false := by
        rw [List.any_eq_false]
        intro x hx
        have := List.findIdx?_eq_none_iff.1 hf x hx
        simpa using this
      rw [this]
      simp
    | some j =>
      obtain ⟨hj, h1, h2⟩ := List.findIdx?_eq_some_iff_getElem.1 hf
      have : (l.any fun n => !ok n) = true := List.any_eq_true.2 ⟨l[j], List.getElem_mem hj, h1⟩
      rw [this]
      simp [hj]
  case step =>
    have c2 : 0 ≤ (i : Int) ∧ (i : Int) < (l.length : Int) := by omega
    have d : decide ((i : Int) < (l.length : Int)) = true := decide_eq_true (by omega)
    have he : r_impl_ArgsOk_1 [.s l[i].name, .i l[i].value.kind, .s l[i].value.text, .sl (l[i].value.items.map TValue.enc), .sl (l[i].value.names.map S1)] = .ret [.b (!ok l[i])] := hc _ (List.getElem_mem hi)
    simp only [E_slices_IndexFunc_impl_Arg__impl_ArgsOk_1L1, zz0, zz1, zb, zi, zs, zl, Int.toNat_natCast, zm, map_getD hi, TArg.enc_eq, d, c2, he, zr, true_and, and_self, if_true]
    cases ok l[i] <;> simp [wrap_succ hi (show l.length ≤ 9223372036854775807 by omega)]
  case fin => simp [E_slices_IndexFunc_impl_Arg__impl_ArgsOk_1L1]
theorem cf_impl_DirsOk_1 (ok : TDir → Bool) (l : List TDir) (hl : l.length ≤ 1048576) (hc : ∀ x ∈ l, r_impl_DirsOk_1 [.s x.name, .sl (x.args.map TArg.enc)] = .ret [.b (!ok x)]) : r_slices_ContainsFunc_impl_Dir__impl_DirsOk_1 [.sl (l.map TDir.enc)] = .ret [.b (!(l.all ok))] := by
  rw [eq_slices_ContainsFunc_impl_Dir__impl_DirsOk_1]
  simp only [E_slices_ContainsFunc_impl_Dir__impl_DirsOk_1, zz0, zl]
  rw [eq_slices_IndexFunc_impl_Dir__impl_DirsOk_1]
  simp only [E_slices_IndexFunc_impl_Dir__impl_DirsOk_1, zz0, zl, zm]
  rw [show (0 : Int) = ((0 : Nat) : Int) from rfl, Loop_find0 (l := l) (st := fun i => [.sl (l.map TDir.enc), .i (l.length : Int), .i (i : Int)]) (p := fun n => !ok n) (stop := fun i _ => .ret [.i (i : Int)]) (fin := .ex 0 []) (fun i hi => ?step) (fun _ _ => Out.esc_ret _) ?fin (Out.esc_ex _ _), goF_idx]
  · rw [List.not_all_eq_any_not]
    cases hf : l.findIdx? fun n => !ok n with
    | none =>
      have : (l.any fun n => !ok n) = false := by
        rw [List.any_eq_false]
        intro x hx
        have := List.findIdx?_eq_none_iff.1 hf x hx
        simpa using this
      rw [this]
      simp
    | some j =>
      obtain ⟨hj, h1, h2⟩ := List.findIdx?_eq_some_iff_getElem.1 hf
      have : (l.any fun n => !ok n) = true := List.any_eq_true.2 ⟨l[j], List.getElem_mem hj, h1⟩
      rw [this]
      simp [hj]
  case step =>
    have c2 : 0 ≤ (i : Int) ∧ (i : Int) < (l.length : Int) := by omega
    have d : decide ((i : Int) < (l.length : Int)) = true := decide_eq_true (by omega)
    have he : r_impl_DirsOk_1 [.s l[i].name, .sl (l[i].args.map TArg.enc)] = .ret [.b (!ok l[i])] := hc _ (List.getElem_mem hi)
    simp only [E_slices_IndexFunc_impl_Dir__impl_DirsOk_1L1, zz0, zz1, zb, zi, zs, zl, Int.toNat_natCast, zm, map_getD hi, TDir.enc_eq, d, c2, he, zr, true_and, and_self, if_true]
    cases ok l[i] <;> simp [wrap_succ hi (show l.length ≤ 9223372036854775807 by omega)]
  case fin => simp [E_slices_IndexFunc_impl_Dir__impl_DirsOk_1L1]
noncomputable def valOk (v : TValue) : Bool := goodV 10 v
theorem spec_ValueOk (v : TValue) (hw : wtL v.enc ≤ 1048576) : r_spec_ValueOk [.i v.kind, .s v.text, .sl (v.items.map TValue.enc), .sl (v.names.map S1)] = .ret [.b (valOk v)] := by
  obtain ⟨h1, h2⟩ := val_same v hw 10 (by omega) (by omega)
  rw [eq_spec_ValueOk]
  simp only [E_spec_ValueOk, zz0, zz1, zi, zs, zl, h1, zr, zb, valOk]
theorem impl_ValueOk (v : TValue) (hw : wtL v.enc ≤ 1048576) : r_impl_ValueOk [.i v.kind, .s v.text, .sl (v.items.map TValue.enc), .sl (v.names.map S1)] = .ret [.b (valOk v)] := by
  obtain ⟨h1, h2⟩ := val_same v hw 10 (by omega) (by omega)
  rw [eq_impl_ValueOk]
  simp only [E_impl_ValueOk, zz0, zz1, zi, zs, zl, h2, zr, zb, valOk]
noncomputable def argOk (a : TArg) : Bool := nameOk a.name && valOk a.value
noncomputable def argsOk (l : List TArg) : Bool := l.all argOk
noncomputable def dirOk (d : TDir) : Bool := nameOk d.name && argsOk d.args
noncomputable def dirsOk (l : List TDir) : Bool := l.all dirOk
theorem arg_wt (a : TArg) : wtL a.enc = a.name.length + wtL a.value.enc := by
  rw [TArg.enc_eq, TValue.enc_eq]
  simp [wtL, DC.wt]
theorem dir_wt (d : TDir) : wtL d.enc = d.name.length + DC.wt (.sl (d.args.map TArg.enc)) := by
  rw [TDir.enc_eq]
  simp only [wtL, DC.wt, Nat.add_zero]
theorem sl_wt {α : Type} {enc : α → List DC} {l : List α} {n : Nat} (h : DC.wt (.sl (l.map enc)) ≤ n) : l.length ≤ n ∧ ∀ x ∈ l, wtL (enc x) ≤ n := by
  rw [DC.wt, zm] at h
  refine ⟨by omega, fun x hx => ?_⟩
  have := wtV_mem (List.mem_map_of_mem (f := enc) hx)
  omega
theorem impl_ArgsOk (l : List TArg) (hw : DC.wt (.sl (l.map TArg.enc)) ≤ 1048576) : r_impl_ArgsOk [.sl (l.map TArg.enc)] = .ret [.b (argsOk l)] := by
  obtain ⟨hl, hx⟩ := sl_wt hw
  rw [eq_impl_ArgsOk]
  simp only [E_impl_ArgsOk, zz0, zl]
  rw [cf_impl_ArgsOk_1 argOk l hl fun x hm => ?_]
  · simp only [zr, zz0, zb, Bool.not_not, argsOk]
  · have hw := hx x hm
    rw [arg_wt] at hw
    rw [eq_impl_ArgsOk_1]
    simp only [E_impl_ArgsOk_1, zz0, zz1, zi, zs, zl, zb, impl_NameOk x.name (by omega), impl_ValueOk x.value (by omega), zr, argOk]
    cases nameOk x.name <;> simp
theorem spec_ArgsOk (l : List TArg) (hw : DC.wt (.sl (l.map TArg.enc)) ≤ 1048576) : r_spec_ArgsOk [.sl (l.map TArg.enc)] = .ret [.b (argsOk l)] := by
  obtain ⟨hl, hx⟩ := sl_wt hw
  rw [eq_spec_ArgsOk]
  simp only [E_spec_ArgsOk, zz0, zl]
  rw [show (0 : Int) = ((0 : Nat) : Int) from rfl, Loop_find0 (l := l) (st := fun i => [.sl (l.map TArg.enc), .i (i : Int)]) (p := fun n => !argOk n) (stop := fun i _ => .ret [.b false]) (fin := .ex 0 []) (fun i hi => ?step) (fun _ _ => Out.esc_ret _) ?fin (Out.esc_ex _ _), goF_any]
  · rw [show (l.any fun n => !argOk n) = !(argsOk l) by unfold argsOk; rw [List.not_all_eq_any_not]]
    cases argsOk l <;> simp
  case step =>
    have hw := hx l[i] (List.getElem_mem hi)
    rw [arg_wt] at hw
    have c2 : 0 ≤ (i : Int) ∧ (i : Int) < (l.length : Int) := by omega
    have d : decide ((i : Int) < (l.length : Int)) = true := decide_eq_true (by omega)
    simp only [E_spec_ArgsOkL1, zz0, zz1, zb, zi, zs, zl, Int.toNat_natCast, zm, map_getD hi, TArg.enc_eq, d, c2, spec_NameOk l[i].name (by omega), spec_ValueOk l[i].value (by omega), zr, true_and, and_self, if_true]
    rcases zt (nameOk l[i].name) with a1 | a1 <;> rcases zt (valOk l[i].value) with a2 | a2 <;> simp [argOk, a1, a2, wrap_succ hi (show l.length ≤ 9223372036854775807 by omega)]
  case fin => simp [E_spec_ArgsOkL1]
theorem impl_DirsOk (l : List TDir) (hw : DC.wt (.sl (l.map TDir.enc)) ≤ 1048576) : r_impl_DirsOk [.sl (l.map TDir.enc)] = .ret [.b (dirsOk l)] := by
  obtain ⟨hl, hx⟩ := sl_wt hw
  rw [eq_impl_DirsOk]
  simp only [E_impl_DirsOk, zz0, zl]
  rw [cf_impl_DirsOk_1 dirOk l hl fun x hm => ?_]
  · simp only [zr, zz0, zb, Bool.not_not, dirsOk]
  · have hw := hx x hm
    rw [dir_wt] at hw
    rw [eq_impl_DirsOk_1]
    simp only [E_impl_DirsOk_1, zz0, zz1, zi, zs, zl, zb, impl_NameOk x.name (by omega), impl_ArgsOk x.args (by omega), zr, dirOk]
    cases nameOk x.name <;> simp
theorem spec_DirsOk (l : List TDir) (hw : DC.wt (.sl (l.map TDir.enc)) ≤ 1048576) : r_spec_DirsOk [.sl (l.map TDir.enc)] = .ret [.b (dirsOk l)] := by
  obtain ⟨hl, hx⟩ := sl_wt hw
  rw [eq_spec_DirsOk]
  simp only [E_spec_DirsOk, zz0, zl]
  rw [show (0 : Int) = ((0 : Nat) : Int) from rfl, Loop_find0 (l := l) (st := fun i => [.sl (l.map TDir.enc), .i (i : Int)]) (p := fun n => !dirOk n) (stop := fun i _ => .ret [.b false]) (fin := .ex 0 []) (fun i hi => ?step) (fun _ _ => Out.esc_ret _) ?fin (Out.esc_ex _ _), goF_any]
  · rw [show (l.any fun n => !dirOk n) = !(dirsOk l) by unfold dirsOk; rw [List.not_all_eq_any_not]]
    cases dirsOk l <;> simp
  case step =>
    have hw := hx l[i] (List.getElem_mem hi)
    rw [dir_wt] at hw
    have c2 : 0 ≤ (i : Int) ∧ (i : Int) < (l.length : Int) := by omega
    have d : decide ((i : Int) < (l.length : Int)) = true := decide_eq_true (by omega)
    simp only [E_spec_DirsOkL1, zz0, zz1, zb, zi, zs, zl, Int.toNat_natCast, zm, map_getD hi, TDir.enc_eq, d, c2, spec_NameOk l[i].name (by omega), spec_ArgsOk l[i].args (by omega), zr, true_and, and_self, if_true]
    rcases zt (nameOk l[i].name) with a1 | a1 <;> rcases zt (argsOk l[i].args) with a2 | a2 <;> simp [dirOk, a1, a2, wrap_succ hi (show l.length ≤ 9223372036854775807 by omega)]
  case fin => simp [E_spec_DirsOkL1]
theorem cf_impl_IsConst_1 (ok : TValue → Bool) (l : List TValue) (hl : l.length ≤ 1048576) (hc : ∀ x ∈ l, r_impl_IsConst_1 [.i x.kind, .s x.text, .sl (x.items.map TValue.enc), .sl (x.names.map S1)] = .ret [.b (!ok x)]) : r_slices_ContainsFunc_impl_Value__impl_IsConst_1 [.sl (l.map TValue.enc)] = .ret [.b (!(l.all ok))] := by
  rw [eq_slices_ContainsFunc_impl_Value__impl_IsConst_1]
  simp only [E_slices_ContainsFunc_impl_Value__impl_IsConst_1, zz0, zl]
  rw [eq_slices_IndexFunc_impl_Value__impl_IsConst_1]
  simp only [E_slices_IndexFunc_impl_Value__impl_IsConst_1, zz0, zl, zm]
  rw [show (0 : Int) = ((0 : Nat) : Int) from rfl, Loop_find0 (l := l) (st := fun i => [.sl (l.map TValue.enc), .i (l.length : Int), .i (i : Int)]) (p := fun n => !ok n) (stop := fun i _ => .ret [.i (i : Int)]) (fin := .ex 0 []) (fun i hi => ?step) (fun _ _ => Out.esc_ret _) ?fin (Out.esc_ex _ _), goF_idx]
  · rw [List.not_all_eq_any_not]
    cases hf : l.findIdx? fun n => !ok n with
    | none =>
      have : (l.any fun n => !ok n) = false := by
        rw [List.any_eq_false]
        intro x hx
        have := List.findIdx?_eq_none_iff.1 hf x hx
        simpa using this
      rw [this]
      simp
    | some j =>
      obtain ⟨hj, h1, h2⟩ := List.findIdx?_eq_some_iff_getElem.1 hf
      have : (l.any fun n => !ok n) = true := List.any_eq_true.2 ⟨l[j], List.getElem_mem hj, h1⟩
      rw [this]
      simp [hj]
  case step =>
    have c2 : 0 ≤ (i : Int) ∧ (i : Int) < (l.length : Int) := by omega
    have d : decide ((i : Int) < (l.length : Int)) = true := decide_eq_true (by omega)
    have he : r_impl_IsConst_1 [.i l[i].kind, .s l[i].text, .sl (l[i].items.map TValue.enc), .sl (l[i].names.map S1)] = .ret [.b (!ok l[i])] := hc _ (List.getElem_mem hi)
    simp only [E_slices_IndexFunc_impl_Value__impl_IsConst_1L1, zz0, zz1, zb, zi, zs, zl, Int.toNat_natCast, zm, map_getD hi, TValue.enc_eq, d, c2, he, zr, true_and, and_self, if_true]
    cases ok l[i] <;> simp [wrap_succ hi (show l.length ≤ 9223372036854775807 by omega)]
  case fin => simp [E_slices_IndexFunc_impl_Value__impl_IsConst_1L1]
theorem cf_impl_constDirs_1 (ok : TDir → Bool) (l : List TDir) (hl : l.length ≤ 1048576) (hc : ∀ x ∈ l, r_impl_constDirs_1 [.s x.name, .sl (x.args.map TArg.enc)] = .ret [.b (!ok x)]) : r_slices_ContainsFunc_impl_Dir__impl_constDirs_1 [.sl (l.map TDir.enc)] = .ret [.b (!(l.all ok))] := by
  rw [eq_slices_ContainsFunc_impl_Dir__impl_constDirs_1]
  simp only [E_slices_ContainsFunc_impl_Dir__impl_constDirs_1, zz0, zl]
  rw [eq_slices_IndexFunc_impl_Dir__impl_constDirs_1]
  simp only [E_slices_IndexFunc_impl_Dir__impl_constDirs_1, zz0, zl, zm]
  rw [show (0 : Int) = ((0 : Nat) : Int) from rfl, Loop_find0 (l := l) (st := fun i => [.sl (l.map TDir.enc), .i (l.length : Int), .i (i : Int)]) (p := fun n => !ok n) (stop := fun i _ => .ret [.i (i : Int)]) (fin := .ex 0 []) (fun i hi => ?step) (fun _ _ => Out.esc_ret _) ?fin (Out.esc_ex _ _), goF_idx]
  · rw [List.not_all_eq_any_not]
    cases hf : l.findIdx? fun n => !ok n with
    | none =>
      have : (l.any fun n => !ok n) = false := by
        rw [List.any_eq_false]
        intro x hx
        have := List.findIdx?_eq_none_iff.1 hf x hx
        simpa using this
      rw [this]
      simp
    | some j =>
      obtain ⟨hj, h1, h2⟩ := List.findIdx?_eq_some_iff_getElem.1 hf
      have : (l.any fun n => !ok n) = true := List.any_eq_true.2 ⟨l[j], List.getElem_mem hj, h1⟩
      rw [this]
      simp [hj]
  case step =>
    have c2 : 0 ≤ (i : Int) ∧ (i : Int) < (l.length : Int) := by omega
    have d : decide ((i : Int) < (l.length : Int)) = true := decide_eq_true (by omega)
    have he : r_impl_constDirs_1 [.s l[i].name, .sl (l[i].args.map TArg.enc)] = .ret [.b (!ok l[i])] := hc _ (List.getElem_mem hi)
    simp only [E_slices_IndexFunc_impl_Dir__impl_constDirs_1L1, zz0, zz1, zb, zi, zs, zl, Int.toNat_natCast, zm, map_getD hi, TDir.enc_eq, d, c2, he, zr, true_and, and_self, if_true]
    cases ok l[i] <;> simp [wrap_succ hi (show l.length ≤ 9223372036854775807 by omega)]
  case fin => simp [E_slices_IndexFunc_impl_Dir__impl_constDirs_1L1]
theorem cf_impl_constDirs_1_1 (ok : TArg → Bool) (l : List TArg) (hl : l.length ≤ 1048576) (hc : ∀ x ∈ l, r_impl_constDirs_1_1 [.s x.name, .i x.value.kind, .s x.value.text, .sl (x.value.items.map TValue.enc), .sl (x.value.names.map S1)] = .ret [.b (!ok x)]) : r_slices_ContainsFunc_impl_Arg__impl_constDirs_1_1 [.sl (l.map TArg.enc)] = .ret [.b (!(l.all ok))] := by
  rw [eq_slices_ContainsFunc_impl_Arg__impl_constDirs_1_1]
  simp only [E_slices_ContainsFunc_impl_Arg__impl_constDirs_1_1, zz0, zl]
  rw [eq_slices_IndexFunc_impl_Arg__impl_constDirs_1_1]
  simp only [E_slices_IndexFunc_impl_Arg__impl_constDirs_1_1, zz0, zl, zm]
  rw [show (0 : Int) = ((0 : Nat) : Int) from rfl, Loop_find0 (l := l) (st := fun i => [.sl (l.map TArg.enc), .i (l.length : Int), .i (i : Int)]) (p := fun n => !ok n) (stop := fun i _ => .ret [.i (i : Int)]) (fin := .ex 0 []) (fun i hi => ?step) (fun _ _ => Out.esc_ret _) ?fin (Out.esc_ex _ _), goF_idx]
  · rw [List.not_all_eq_any_not]
    cases hf : l.findIdx? fun n => !ok n with
    | none =>
      have : (l.any fun n => !ok n) = false := by
        rw [List.any_eq_false]
        intro x hx
        have := List.findIdx?_eq_none_iff.1 hf x hx
        simpa using this
      rw [this]
      simp
    | some j =>
      obtain ⟨hj, h1, h2⟩ := List.findIdx?_eq_some_iff_getElem.1 hf
      have : (l.any fun n => !ok n) = true := List.any_eq_true.2 ⟨l[j], List.getElem_mem hj, h1⟩
      rw [this]
      simp [hj]
  case step =>
    have c2 : 0 ≤ (i : Int) ∧ (i : Int) < (l.length : Int) := by omega
    have d : decide ((i : Int) < (l.length : Int)) = true := decide_eq_true (by omega)
    have he : r_impl_constDirs_1_1 [.s l[i].name, .i l[i].value.kind, .s l[i].value.text, .sl (l[i].value.items.map TValue.enc), .sl (l[i].value.names.map S1)] = .ret [.b (!ok l[i])] := hc _ (List.getElem_mem hi)
    simp only [E_slices_IndexFunc_impl_Arg__impl_constDirs_1_1L1, zz0, zz1, zb, zi, zs, zl, Int.toNat_natCast, zm, map_getD hi, TArg.enc_eq, d, c2, he, zr, true_and, and_self, if_true]
    cases ok l[i] <;> simp [wrap_succ hi (show l.length ≤ 9223372036854775807 by omega)]
  case fin => simp [E_slices_IndexFunc_impl_Arg__impl_constDirs_1_1L1]
def isConst (v : TValue) : Bool := (v.items.attach.all fun x => isConst x.1) && v.kind != 1
termination_by SizeOf.sizeOf v
decreasing_by exact TValue.lt x.2
theorem isConst_eq (v : TValue) : isConst v = (v.items.all isConst && v.kind != 1) := by
  rw [isConst]
  congr 1
  rw [List.all_subtype (g := isConst) (fun _ _ => rfl)]
  simp
theorem spec_l07Const (v : TValue) : wtL v.enc ≤ 1048576 → r_spec_l07Const [.i v.kind, .s v.text, .sl (v.items.map TValue.enc), .sl (v.names.map S1)] = .ret [.b (isConst v)] := by
  induction v using TValue.ind with | h v ih =>
  intro hw
  rw [TValue.enc_eq] at hw
  simp only [wtL] at hw
  obtain ⟨hl, hx⟩ := sl_wt (l := v.items) (enc := TValue.enc) (n := 1048576) (by omega)
  rw [eq_spec_l07Const, isConst_eq]
  simp only [E_spec_l07Const, zz0, zz1, zb, zi, zs, zl]
  rw [show (0 : Int) = ((0 : Nat) : Int) from rfl, Loop_find0 (l := v.items) (st := fun i => [.i (i : Int), .i v.kind, .s v.text, .sl (v.items.map TValue.enc), .sl (v.names.map S1)]) (p := fun x => !isConst x) (stop := fun i _ => .ret [.b false]) (fin := .ex 0 [.i v.kind, .s v.text, .sl (v.items.map TValue.enc), .sl (v.names.map S1)]) (fun i hi => ?step) (fun _ _ => Out.esc_ret _) ?fin (Out.esc_ex _ _), goF_any]
  · rw [show (v.items.any fun x => !isConst x) = !(v.items.all isConst) by rw [List.not_all_eq_any_not]]
    cases v.items.all isConst <;> simp
  case step =>
    have hx := ih v.items[i] (List.getElem_mem hi) (hx _ (List.getElem_mem hi))
    have c2 : 0 ≤ (i : Int) ∧ (i : Int) < (v.items.length : Int) := by omega
    have d : decide ((i : Int) < (v.items.length : Int)) = true := decide_eq_true (by omega)
    simp only [E_spec_l07ConstL1, zz0, zz1, zb, zi, zs, zl, Int.toNat_natCast, zm, map_getD hi, TValue.enc_eq, d, c2, hx, zr, true_and, and_self, if_true, decide_true]
    rcases zt (isConst v.items[i]) with q | q <;> simp [q, wrap_succ hi (show v.items.length ≤ 9223372036854775807 by omega)]
  case fin => simp [E_spec_l07ConstL1]
theorem spec_IsConst (v : TValue) (hw : wtL v.enc ≤ 1048576) : r_spec_IsConst [.i v.kind, .s v.text, .sl (v.items.map TValue.enc), .sl (v.names.map S1)] = .ret [.b (isConst v)] := by
  rw [eq_spec_IsConst]
  simp only [E_spec_IsConst, zz0, zz1, zb, zi, zs, zl, spec_l07Const v hw, zr]
theorem impl_IsConst (v : TValue) : wtL v.enc ≤ 1048576 → r_impl_IsConst [.i v.kind, .s v.text, .sl (v.items.map TValue.enc), .sl (v.names.map S1)] = .ret [.b (isConst v)] := by
  induction v using TValue.ind with | h v ih =>
  intro hw
  rw [TValue.enc_eq] at hw
  simp only [wtL] at hw
  obtain ⟨hl, hx⟩ := sl_wt (l := v.items) (enc := TValue.enc) (n := 1048576) (by omega)
  have hc : r_slices_ContainsFunc_impl_Value__impl_IsConst_1 [.sl (v.items.map TValue.enc)] = .ret [.b (!(v.items.all isConst))] := cf_impl_IsConst_1 isConst v.items hl fun x hm => by
    rw [eq_impl_IsConst_1]
    simp only [E_impl_IsConst_1, zz0, zz1, zb, zi, zs, zl, ih x hm (hx x hm), zr]
  rw [eq_impl_IsConst, isConst_eq]
  simp only [E_impl_IsConst, zz0, zz1, zb, zi, zs, zl, hc, zr]
  generalize v.items.all isConst = q
  rcases zt (v.kind != 1) with h | h <;> rw [h] <;> cases q <;> simp
def emptyV (v : TValue) : Bool := v.kind == 0 && (v.text == [] && (v.items.isEmpty && v.names.isEmpty))
theorem len0 {α : Type} (l : List α) (f : α → List DC) : (((l.map f).length : Int) == 0) = l.isEmpty := by
  cases l with
  | nil => rfl
  | cons a l => exact beq_eq_false_iff_ne.2 (by simp; omega)
theorem impl_emptyValue (v : TValue) : r_impl_emptyValue [.i v.kind, .s v.text, .sl (v.items.map TValue.enc), .sl (v.names.map S1)] = .ret [.b (emptyV v)] := by
  have hp : r_impl_plain [.i v.kind, .s v.text, .sl (v.items.map TValue.enc), .sl (v.names.map S1)] = .ret [.b (v.items.isEmpty && v.names.isEmpty)] := by
    rw [eq_impl_plain]
    simp only [E_impl_plain, zz0, zz1, zb, zi, zs, zl, len0]
    cases v.items.isEmpty <;> simp
  rw [eq_impl_emptyValue]
  simp only [E_impl_emptyValue, zz0, zz1, zb, zi, zs, zl, hp, zr, emptyV]
  generalize (v.items.isEmpty && v.names.isEmpty) = q
  generalize (v.kind == 0) = p1
  generalize (v.text == ([] : List UInt8)) = p2
  cases p1 <;> cases p2 <;> simp
theorem spec_SameEmpty (v : TValue) : r_spec_SameValue [.i v.kind, .s v.text, .sl (v.items.map TValue.enc), .sl (v.names.map S1), .i 0, .s [], .sl [], .sl []] = .ret [.b (emptyV v)] := by
  rw [eq_spec_SameValue]
  have e0 : (v.kind != 0) = !(v.kind == 0) := rfl
  have e1 : (((v.items.map TValue.enc).length : Int) != (([] : List (List DC)).length : Int)) = !v.items.isEmpty := by rw [← len0 v.items TValue.enc]; rfl
  have e2 : (((v.names.map S1).length : Int) != (([] : List (List DC)).length : Int)) = !v.names.isEmpty := by rw [← len0 v.names S1]; rfl
  simp only [E_spec_SameValue, zz0, zz1, zb, zi, zs, zl, e0, e1, e2, emptyV]
  generalize hp1 : (v.kind == 0) = p1
  generalize hp2 : (v.text == ([] : List UInt8)) = p2
  cases p1
  · simp
  cases p2
  · simp
  cases hi : v.items with
  | cons a l => simp
  | nil =>
    cases hn : v.names with
    | cons a l => simp
    | nil =>
      have h1 : Loop E_spec_SameValueL1 [.i 0, .i v.kind, .s v.text, .sl [], .sl [], .i 0, .s [], .sl [], .sl []] = .ex 0 [.i v.kind, .s v.text, .sl [], .sl [], .i 0, .s [], .sl [], .sl []] := by
        refine Loop_ex ?_
        simp [E_spec_SameValueL1]
      have h2 : Loop E_spec_SameValueL2 [.i 0, .i v.kind, .s v.text, .sl [], .sl [], .i 0, .s [], .sl [], .sl []] = .ex 2 [] := by
        refine Loop_ex ?_
        simp [E_spec_SameValueL2]
      simp [h1, h2]
noncomputable def defOk (has : Bool) (v : TValue) : Bool := if has then valOk v && isConst v else emptyV v
theorem spec_l12Default (has : Bool) (v : TValue) (hw : wtL v.enc ≤ 1048576) : r_spec_l12Default [.b has, .i v.kind, .s v.text, .sl (v.items.map TValue.enc), .sl (v.names.map S1)] = .ret [.b (defOk has v)] := by
  rw [eq_spec_l12Default]
  simp only [E_spec_l12Default, zz0, zz1, zb, zi, zs, zl, spec_ValueOk v hw, spec_IsConst v hw, spec_SameEmpty v, zr, defOk]
  generalize valOk v = p1
  generalize isConst v = p2
  cases has <;> cases p1 <;> simp
theorem impl_defaultOk (has : Bool) (v : TValue) (hw : wtL v.enc ≤ 1048576) : r_impl_defaultOk [.b has, .i v.kind, .s v.text, .sl (v.items.map TValue.enc), .sl (v.names.map S1)] = .ret [.b (defOk has v)] := by
  rw [eq_impl_defaultOk]
  simp only [E_impl_defaultOk, zz0, zz1, zb, zi, zs, zl, impl_ValueOk v hw, impl_IsConst v hw, impl_emptyValue v, zr, defOk]
  generalize valOk v = p1
  generalize isConst v = p2
  cases has <;> cases p1 <;> simp
def dirConst (d : TDir) : Bool := d.args.all fun a => isConst a.value
noncomputable def constsOk (l : List TDir) : Bool := dirsOk l && l.all dirConst
theorem impl_constDirs (l : List TDir) (hw : DC.wt (.sl (l.map TDir.enc)) ≤ 1048576) : r_impl_constDirs [.sl (l.map TDir.enc)] = .ret [.b (constsOk l)] := by
  obtain ⟨hl, hx⟩ := sl_wt hw
  have hD := impl_DirsOk l hw
  have hc : r_slices_ContainsFunc_impl_Dir__impl_constDirs_1 [.sl (l.map TDir.enc)] = .ret [.b (!(l.all fun d => !(dirConst d)))] → True := fun _ => trivial
  have hc : r_slices_ContainsFunc_impl_Dir__impl_constDirs_1 [.sl (l.map TDir.enc)] = .ret [.b (!(l.all dirConst))] := cf_impl_constDirs_1 dirConst l hl fun d hm => by
    have hd := hx d hm
    rw [dir_wt] at hd
    obtain ⟨hl2, hx2⟩ := sl_wt (l := d.args) (enc := TArg.enc) (n := 1048576) (by omega)
    have hi : r_slices_ContainsFunc_impl_Arg__impl_constDirs_1_1 [.sl (d.args.map TArg.enc)] = .ret [.b (!(d.args.all fun a => isConst a.value))] := cf_impl_constDirs_1_1 (fun a => isConst a.value) d.args hl2 fun a ha => by
      have hv := hx2 a ha
      rw [arg_wt] at hv
      rw [eq_impl_constDirs_1_1]
      simp only [E_impl_constDirs_1_1, zz0, zz1, zb, zi, zs, zl, impl_IsConst a.value (by omega), zr]
    rw [eq_impl_constDirs_1]
    simp only [E_impl_constDirs_1, zz0, zz1, zb, zi, zs, zl, hi, zr, dirConst]
  rw [eq_impl_constDirs]
  simp only [E_impl_constDirs, zz0, zz1, zb, zi, zs, zl, hD, hc, zr, constsOk]
  cases dirsOk l <;> simp
theorem spec_l12Consts (l : List TDir) (hw : DC.wt (.sl (l.map TDir.enc)) ≤ 1048576) : r_spec_l12Consts [.sl (l.map TDir.enc)] = .ret [.b (constsOk l)] := by
  obtain ⟨hl, hx⟩ := sl_wt hw
  have hD := spec_DirsOk l hw
  rw [eq_spec_l12Consts]
  simp only [E_spec_l12Consts, zz0, zz1, zb, zi, zs, zl]
  rw [show (0 : Int) = ((0 : Nat) : Int) from rfl, Loop_find0 (l := l) (st := fun i => [.sl (l.map TDir.enc), .i (i : Int)]) (p := fun x => !dirConst x) (stop := fun i _ => .ret [.b false]) (fin := .ex 0 [.sl (l.map TDir.enc)]) (fun i hi => ?step) (fun _ _ => Out.esc_ret _) ?fin (Out.esc_ex _ _), goF_any]
  · rw [show (l.any fun x => !dirConst x) = !(l.all dirConst) by rw [List.not_all_eq_any_not]]
    unfold constsOk
    cases l.all dirConst
    · simp
    · simp [hD]
  case step =>
    have hd := hx l[i] (List.getElem_mem hi)
    rw [dir_wt] at hd
    obtain ⟨hl2, hx2⟩ := sl_wt (l := l[i].args) (enc := TArg.enc) (n := 1048576) (by omega)
    have c2 : 0 ≤ (i : Int) ∧ (i : Int) < (l.length : Int) := by omega
    have d : decide ((i : Int) < (l.length : Int)) = true := decide_eq_true (by omega)
    have hin : Loop E_spec_l12ConstsL1 [.sl (l.map TDir.enc), .i (i : Int), .i ((0 : Nat) : Int)] = if l[i].args.any (fun a => !isConst a.value) = true then .ret [.b false] else .ex 2 [.sl (l.map TDir.enc), .i (i : Int)] := by
      rw [Loop_find0 (l := l[i].args) (st := fun k => [.sl (l.map TDir.enc), .i (i : Int), .i (k : Int)]) (p := fun a => !isConst a.value) (stop := fun i _ => .ret [.b false]) (fin := .ex 2 [.sl (l.map TDir.enc), .i (i : Int)]) (fun k hk => ?istep) (fun _ _ => Out.esc_ret _) ?ifin (Out.esc_ex _ _), goF_any]
      case istep =>
        have hv := hx2 _ (List.getElem_mem hk)
        rw [arg_wt] at hv
        have c3 : 0 ≤ (k : Int) ∧ (k : Int) < (l[i].args.length : Int) := by omega
        have d3 : decide ((k : Int) < (l[i].args.length : Int)) = true := decide_eq_true (by omega)
        have hcst := spec_IsConst l[i].args[k].value (by omega)
        simp only [E_spec_l12ConstsL1, zz0, zz1, zb, zi, zs, zl, Int.toNat_natCast, zm, map_getD hi, map_getD hk, TDir.enc_eq, TArg.enc_eq, d3, c2, c3, hcst, zr, true_and, and_self, if_true, decide_true]
        rcases zt (isConst l[i].args[k].value) with q | q <;> simp [q, wrap_succ hk (show l[i].args.length ≤ 9223372036854775807 by omega)]
      case ifin => simp [E_spec_l12ConstsL1, map_getD hi, TDir.enc_eq, c2, hi]
    simp only [E_spec_l12ConstsL2, zz0, zz1, zb, zi, zs, zl, Int.toNat_natCast, zm, d, if_true]
    rw [show (0 : Int) = ((0 : Nat) : Int) from rfl, hin]
    have hq : (l[i].args.any fun a => !isConst a.value) = !(dirConst l[i]) := by unfold dirConst; rw [List.not_all_eq_any_not]
    rw [hq]
    rcases zt (dirConst l[i]) with q | q <;> simp [q, wrap_succ hi (show l.length ≤ 9223372036854775807 by omega)]
  case fin => simp [E_spec_l12ConstsL2]
theorem spec_OpWord (k : Int) : r_spec_OpWord [.i k] = .ret [.s (if k = 1 then [113, 117, 101, 114, 121] else if k = 2 then [109, 117, 116, 97, 116, 105, 111, 110] else if k = 3 then [115, 117, 98, 115, 99, 114, 105, 112, 116, 105, 111, 110] else [])] := by
  rw [eq_spec_OpWord]
  simp only [E_spec_OpWord, zz0, zz1, zb, zi, zs, zl]
  by_cases h1 : k = 1
  · simp [h1]
  by_cases h2 : k = 2
  · simp [h2]
  by_cases h3 : k = 3
  · simp [h3]
  simp [h1, h2, h3]
theorem impl_OpWord (k : Int) : r_impl_OpWord [.i k] = .ret [.s (if k = 1 then [113, 117, 101, 114, 121] else if k = 2 then [109, 117, 116, 97, 116, 105, 111, 110] else if k = 3 then [115, 117, 98, 115, 99, 114, 105, 112, 116, 105, 111, 110] else [])] := by
  rw [eq_impl_OpWord]
  simp only [E_impl_OpWord, zz0, zz1, zb, zi, zs, zl, List.length_cons, List.length_nil, show IntKind.i64.wrap (((0 + 1 + 1 + 1 + 1 : Nat) : Int) - 1) = 3 from by rw [show (((0 + 1 + 1 + 1 + 1 : Nat) : Int) - 1) = 3 from rfl]; exact wrap64 (by omega) (by omega), impl_in, zr]
  by_cases h1 : k = 1
  · simp [h1]
  by_cases h2 : k = 2
  · simp [h2]
  by_cases h3 : k = 3
  · simp [h3]
  have hin : (decide (1 ≤ k) && decide (k ≤ 3)) = false := by
    rw [← Bool.decide_and]
    exact decide_eq_false (by omega)
  simp only [hin, Bool.not_false, if_true, h1, h2, h3, if_false]
theorem word_nil (k : Int) : ((if k = 1 then [113, 117, 101, 114, 121] else if k = 2 then [109, 117, 116, 97, 116, 105, 111, 110] else if k = 3 then [115, 117, 98, 115, 99, 114, 105, 112, 116, 105, 111, 110] else ([] : List UInt8)) == []) = !(k == 1 || (k == 2 || k == 3)) := by
  by_cases h1 : k = 1
  · simp [h1]
  by_cases h2 : k = 2
  · simp [h2]
  by_cases h3 : k = 3
  · simp [h3]
  simp [h1, h2, h3]
theorem bytesRow_eq (l : List UInt8) : bytesRow l = brows l := rfl
theorem brows_app' (l m : List UInt8) : brows l ++ brows m = brows (l ++ m) := (brows_app l m).symm
def jt {α : Type} (o sep : List UInt8) (f : α → List UInt8) : List α → List UInt8
  | [] => []
  | x :: l => o ++ (f x ++ l.flatMap fun y => sep ++ f y)
theorem jt_app {α : Type} (o sep : List UInt8) (f : α → List UInt8) (a b : List α) : ∃ t, jt o sep f (a ++ b) = jt o sep f a ++ t := by
  cases a with
  | nil => exact ⟨jt o sep f b, rfl⟩
  | cons x a => exact ⟨b.flatMap fun y => sep ++ f y, by simp [jt, List.flatMap_append]⟩
theorem jt_snoc {α : Type} (o sep : List UInt8) (f : α → List UInt8) (l : List α) (x : α) : jt o sep f (l ++ [x]) = jt o sep f l ++ ((if l.length = 0 then o else sep) ++ f x) := by
  cases l with
  | nil => simp [jt]
  | cons a l => simp [jt, List.flatMap_append]
theorem jt_take {α : Type} (o sep : List UInt8) (f : α → List UInt8) (l : List α) {i : Nat} (hi : i < l.length) : jt o sep f (l.take (i + 1)) = jt o sep f (l.take i) ++ ((if i = 0 then o else sep) ++ f l[i]) := by
  rw [← List.take_append_getElem hi, jt_snoc, List.length_take, Nat.min_eq_left (by omega)]
theorem jt_join {α : Type} (sep : List UInt8) (f : α → List UInt8) (l : List α) : jt [] sep f l = Lib.join (l.map f) sep := by
  cases l with
  | nil => rfl
  | cons x l =>
    rw [List.map_cons, Lib.join_cons, Lib.joinTail, List.map_map, jt, List.nil_append, List.flatMap_def]
    rfl
theorem jt_loop {α : Type} {o sep : List UInt8} {f : α → List UInt8} {l : List α} {st : Nat → List UInt8 → List DC} {F : List DC → Out} {res : Out} (out : List UInt8)
    (step : ∀ (i : Nat) (hi : i < l.length) (cur : List UInt8), cur.length + ((if i = 0 then o else sep) ++ f l[i]).length ≤ out.length + (jt o sep f l).length → F (st i cur) = .norm (st (i + 1) (cur ++ ((if i = 0 then o else sep) ++ f l[i]))))
    (fin : F (st l.length (out ++ jt o sep f l)) = res) (he : res.esc) : Loop F (st 0 out) = res := by
  have h := Loop_upto (F := F) (st := fun i => st i (out ++ jt o sep f (l.take i))) (o := res) l.length 0 (fun j _ hj => ?_) ?_
  · simpa [jt] using h
  · have hj : j < l.length := by omega
    try dsimp only
    rw [jt_take o sep f l hj, ← List.append_assoc]
    refine step j hj _ ?_
    obtain ⟨t, ht⟩ := jt_app o sep f (l.take (j + 1)) (l.drop (j + 1))
    rw [List.take_append_drop, jt_take o sep f l hj] at ht
    have := congrArg List.length ht
    simp only [List.length_append] at this ⊢
    omega
  · try dsimp only
    rw [Nat.zero_add, List.take_length]
    exact Loop_esc fin he
theorem words_loop {α : Type} {w : α → List UInt8} {l : List α} {st : Nat → List (List DC) → List DC} {F : List DC → Out} {res : Out}
    (step : ∀ (i : Nat) (hi : i < l.length) (cur : List (List DC)), cur.length = i → F (st i cur) = .norm (st (i + 1) (cur ++ [[DC.s (w l[i])]])))
    (fin : F (st l.length (l.map fun x => [DC.s (w x)])) = res) (he : res.esc) : Loop F (st 0 []) = res := by
  have h := Loop_upto (F := F) (st := fun i => st i ((l.take i).map fun x => [DC.s (w x)])) (o := res) l.length 0 (fun j _ hj => ?_) ?_
  · simpa using h
  · have hj : j < l.length := by omega
    try dsimp only
    rw [← List.take_append_getElem hj, List.map_append, List.map_cons, List.map_nil]
    exact step j hj _ (by rw [zm, List.length_take]; omega)
  · try dsimp only
    rw [Nat.zero_add, List.take_length]
    exact Loop_esc fin he
theorem join_words (ws : List (List UInt8)) (sep : List UInt8) (h : ws.length ≤ 140737488355328) (h2 : (Lib.join ws sep).length ≤ 140737488355328) :
    qJoin (ws.map fun x => [DC.s x]) sep = some (Lib.join ws sep) := by
  have e : ((ws.map fun x => [DC.s x]).map fun x => (x.getD 0 d0).ss) = ws := by
    rw [List.map_map]
    exact List.map_id ws
  unfold qJoin
  rw [e, zm, if_pos ⟨h, h2⟩]
theorem join_len (ws : List (List UInt8)) : (Lib.join ws [44, 32]).length ≤ (ws.map List.length).sum + 2 * ws.length := by
  cases ws with
  | nil => simp [Lib.join]
  | cons x l =>
    rw [Lib.join_cons, Lib.joinTail]
    have : ((l.map ([44, 32] ++ ·)).flatten).length = (l.map List.length).sum + 2 * l.length := by
      induction l with
      | nil => rfl
      | cons a l ih => simp only [List.map_cons, List.flatten_cons, List.length_append, List.sum_cons, List.length_cons, ih, List.length_nil]; omega
    simp only [List.length_append, List.map_cons, List.sum_cons, List.length_cons, this]
    omega
theorem zip_len (g : List UInt8 → List UInt8 → List UInt8) (hg : ∀ n t, (g n t).length = n.length + t.length + 2) : ∀ (ns ws : List (List UInt8)), ((List.zipWith g ns ws).map List.length).sum + 2 * (List.zipWith g ns ws).length ≤ (ns.map List.length).sum + (ws.map List.length).sum + 4 * ws.length
  | [], ws => by simp
  | n :: ns, [] => by simp
  | n :: ns, w :: ws => by
    have := zip_len g hg ns ws
    simp only [List.zipWith_cons_cons, List.map_cons, List.sum_cons, List.length_cons, hg]
    omega
theorem wtV_S1 : ∀ l : List (List UInt8), wtV (l.map S1) = (l.map List.length).sum
  | [] => rfl
  | x :: l => by rw [List.map_cons, wtV, wtV_S1 l, List.map_cons, List.sum_cons]; simp [S1, wtL, DC.wt]
theorem sum_wtV {α : Type} {enc : α → List DC} {f : α → List UInt8} {a b : Nat} : ∀ (l : List α), (∀ x ∈ l, (f x).length ≤ a * wtL (enc x) + b) → ((l.map f).map List.length).sum ≤ a * wtV (l.map enc) + b * l.length
  | [], _ => by simp
  | x :: l, h => by
    have h1 := h x (by simp)
    have h2 := sum_wtV (enc := enc) l fun y hy => h y (by simp [hy])
    simp only [List.map_cons, List.sum_cons, wtV, List.length_cons, Nat.mul_add, Nat.mul_one]
    omega
def valW (k : Int) (t : List UInt8) (ns ws : List (List UInt8)) : List UInt8 :=
  if k = 1 then 36 :: t else if k = 4 then escaped t else if k = 7 then 91 :: (Lib.join ws [44, 32] ++ [93])
  else if k = 8 then 123 :: (Lib.join (List.zipWith (fun n t => n ++ (58 :: 32 :: t)) ns ws) [44, 32] ++ [125]) else t
def valT (v : TValue) : List UInt8 := valW v.kind v.text v.names (v.items.attach.map fun x => valT x.1)
termination_by SizeOf.sizeOf v
decreasing_by exact TValue.lt x.2
theorem valT_eq (v : TValue) : valT v = valW v.kind v.text v.names (v.items.map valT) := by
  rw [valT]
  congr 1
  simp
theorem escaped_len (s : List UInt8) : (escaped s).length ≤ 6 * s.length + 2 := by
  unfold escaped
  split
  · have := escs_len s
    simp only [List.length_cons, List.length_append, List.length_nil]
    omega
  · simp
theorem valT_len (v : TValue) : (valT v).length ≤ 8 * wtL v.enc + 2 := by
  induction v using TValue.ind with | h v ih =>
  rw [valT_eq, val_wsum]
  have hs := sum_wtV (enc := TValue.enc) (f := valT) v.items ih
  simp only [DC.wt, zm, wtV_S1]
  unfold valW
  split
  · simp only [List.length_cons]; omega
  split
  · have := escaped_len v.text
    omega
  split
  · have := join_len (v.items.map valT)
    simp only [List.length_cons, List.length_append, List.length_nil, zm] at this ⊢
    omega
  split
  · have h1 := join_len (List.zipWith (fun n t => n ++ (58 :: 32 :: t)) v.names (v.items.map valT))
    have h2 := zip_len (fun n t => n ++ (58 :: 32 :: t)) (fun n t => by simp only [List.length_append, List.length_cons]; omega) v.names (v.items.map valT)
    simp only [List.length_cons, List.length_append, List.length_nil, zm] at h1 h2 ⊢
    omega
  · omega
def argT (a : TArg) : List UInt8 := a.name ++ (58 :: 32 :: valT a.value)
def argsT (l : List TArg) : List UInt8 := jt [40] [44, 32] argT l ++ (if l.isEmpty then [] else [41])
theorem jt_cons {α : Type} (o sep : List UInt8) (f : α → List UInt8) (x : α) (l : List α) : jt o sep f (x :: l) = o ++ Lib.join ((x :: l).map f) sep := by
  rw [← jt_join, jt, jt, List.nil_append]
theorem argsT_cons (x : TArg) (l : List TArg) : argsT (x :: l) = 40 :: (Lib.join ((x :: l).map argT) [44, 32] ++ [41]) := by
  rw [argsT, jt_cons]
  rfl
theorem argsT_nil : argsT [] = [] := rfl
theorem arg_len (a : TArg) : (argT a).length ≤ 8 * wtL a.enc + 4 := by
  have := valT_len a.value
  rw [arg_wt]
  unfold argT
  simp only [List.length_append, List.length_cons]
  omega
theorem args_len (l : List TArg) : (argsT l).length ≤ 8 * DC.wt (.sl (l.map TArg.enc)) := by
  cases l with
  | nil => simp [argsT_nil]
  | cons x l =>
    have h1 := join_len ((x :: l).map argT)
    have h2 := sum_wtV (enc := TArg.enc) (f := argT) (a := 8) (b := 4) (x :: l) fun y _ => arg_len y
    rw [argsT_cons, DC.wt]
    rw [zm] at h1
    simp only [List.length_cons, List.length_append, List.length_nil, zm] at h1 h2 ⊢
    omega
def dirT (d : TDir) : List UInt8 := 32 :: 64 :: (d.name ++ argsT d.args)
def dirsT (l : List TDir) : List UInt8 := jt [] [] dirT l
theorem flat_len {α : Type} {enc : α → List DC} {f : α → List UInt8} {a : Nat} (l : List α) (h : ∀ x ∈ l, (f x).length ≤ a * wtL (enc x) + a) : (jt [] [] f l).length ≤ a * DC.wt (.sl (l.map enc)) := by
  have e : jt [] [] f l = l.flatMap f := by
    cases l with
    | nil => rfl
    | cons x l => rfl
  have hs := sum_wtV (enc := enc) (f := f) l h
  rw [e, List.length_flatMap, DC.wt, zm, Nat.mul_add]
  rw [List.map_map] at hs
  have : (l.map fun x => (f x).length) = l.map (List.length ∘ f) := rfl
  rw [this]
  omega
theorem dir_len (d : TDir) : (dirT d).length ≤ 8 * wtL d.enc + 8 := by
  have := args_len d.args
  rw [dir_wt]
  unfold dirT
  simp only [List.length_append, List.length_cons]
  omega
theorem dirs_len (l : List TDir) : (dirsT l).length ≤ 8 * DC.wt (.sl (l.map TDir.enc)) := flat_len l fun x _ => dir_len x
def wrapT (s : List UInt8) (c : UInt8) : List UInt8 := if c = 33 then s ++ [33] else 91 :: (s ++ [93])
def typeT (n w : List UInt8) : List UInt8 := w.foldl wrapT n
theorem type_len : ∀ (w n : List UInt8), (typeT n w).length ≤ n.length + 2 * w.length
  | [], n => by simp [typeT]
  | c :: w, n => by
    have := type_len w (wrapT n c)
    have h2 : (wrapT n c).length ≤ n.length + 2 := by unfold wrapT; split <;> simp
    show (typeT (wrapT n c) w).length ≤ _
    rw [List.length_cons]
    omega
theorem good_shape (v : TValue) (hw : wtL v.enc ≤ 1048576) (room : Int) (hr : 0 ≤ room) (hr2 : room ≤ 10) (hg : goodV room v = true) :
    (v.kind ≠ 7 → v.kind ≠ 8 → v.items = []) ∧ (v.kind = 8 → v.names.length = v.items.length) ∧ ∀ x ∈ v.items, 0 ≤ room - 1 ∧ goodV (room - 1) x = true := by
  have h1 := (val_same v hw room hr hr2).1
  rw [hg] at h1
  rw [val_wsum] at hw
  obtain ⟨hNl, hNs⟩ := strs_len (l := v.names) (by omega)
  obtain ⟨hIl, hx⟩ := sl_wt (l := v.items) (enc := TValue.enc) (n := 1048576) (by omega)
  have hone := spec_One v.kind v.text (v.items.map TValue.enc) (v.names.map S1) (by omega)
  have hs : 0 < room → ∀ x ∈ v.items, sameV (room - 1) x := fun hp x hm => val_same x (hx x hm) (room - 1) (by omega) (by omega)
  obtain ⟨K, T, I, N⟩ := v
  simp only at *
  have z1 : ∀ n : Nat, ((n : Int) + 1 = 0) = False := fun n => by simp; omega
  have z2 : ∀ n : Nat, ((n : Int) + 1 == 0) = false := fun n => beq_eq_false_iff_ne.2 (by omega)
  rw [eq_spec_l07Right] at h1
  cases ho : oneV K T with
  | false => rw [ho] at hone; simp [E_spec_l07Right, hone] at h1
  | true =>
    rw [ho] at hone
    by_cases k7 : K = 7
    · subst k7
      cases N with
      | cons n N => (try simp at hone); simp [E_spec_l07Right, hone, z1, z2] at h1
      | nil =>
        rcases Int.lt_or_le 0 room with hp | hp
        · have hr0 : (room == 0) = false := beq_eq_false_iff_ne.2 (by omega)
          have hr1 : ¬ room = 0 := by omega
          have hlp := val_loop6 room 7 (by decide) T I [] hIl hp hr2 (hs hp)
          refine ⟨fun h => absurd rfl h, fun h => by simp at h, ?_⟩
          cases hA : I.all (goodV (room - 1)) with
          | false => rw [hA] at hlp; (try simp at hone hlp); simp [E_spec_l07Right, hone, z1, z2, hr0, hr1, hlp] at h1
          | true => exact fun x hm => ⟨by omega, List.all_eq_true.1 hA x hm⟩
        · have hr0 : room = 0 := by omega
          subst hr0
          (try simp at hone)
          simp [E_spec_l07Right, hone, z1, z2] at h1
    · by_cases k8 : K = 8
      · subst k8
        by_cases hlen : N.length = I.length
        · rcases Int.lt_or_le 0 room with hp | hp
          · have hr0 : (room == 0) = false := beq_eq_false_iff_ne.2 (by omega)
            have hr1 : ¬ room = 0 := by omega
            have hlp := val_loop7 room T I N hIl hlen hNs hp hr2 (hs hp)
            refine ⟨fun _ h => absurd rfl h, fun _ => hlen, ?_⟩
            cases hA : I.all (goodV (room - 1)) with
            | false => rw [hA] at hlp; (try simp at hone hlp); simp [E_spec_l07Right, hone, z1, z2, hr0, hr1, hlp, hlen] at h1
            | true => exact fun x hm => ⟨by omega, List.all_eq_true.1 hA x hm⟩
          · have hr0 : room = 0 := by omega
            subst hr0
            (try simp at hone)
            simp [E_spec_l07Right, hone, z1, z2, hlen] at h1
        · have hl2 : ¬ ((N.length : Int) = (I.length : Int)) := by omega
          (try simp at hone)
          simp [E_spec_l07Right, hone, z1, z2, hl2] at h1
      · cases I with
        | nil => exact ⟨fun _ _ => rfl, fun h => absurd h k8, fun x hm => by simp at hm⟩
        | cons a I =>
          (try simp at hone)
          simp [E_spec_l07Right, hone, z1, z2, k7, k8] at h1
theorem bc44 (l : List UInt8) : [DC.i (44 : Int)] :: brows l = brows (44 :: l) := rfl
theorem bc58 (l : List UInt8) : [DC.i (58 : Int)] :: brows l = brows (58 :: l) := rfl
theorem bc32 (l : List UInt8) : [DC.i (32 : Int)] :: brows l = brows (32 :: l) := rfl
theorem bc46 (l : List UInt8) : [DC.i (46 : Int)] :: brows l = brows (46 :: l) := rfl
theorem bc123 (l : List UInt8) : [DC.i (123 : Int)] :: brows l = brows (123 :: l) := rfl
theorem bc64 (l : List UInt8) : [DC.i (64 : Int)] :: brows l = brows (64 :: l) := rfl
theorem bc10 (l : List UInt8) : [DC.i (10 : Int)] :: brows l = brows (10 :: l) := rfl
theorem bc125 (l : List UInt8) : [DC.i (125 : Int)] :: brows l = brows (125 :: l) := rfl
theorem bc40 (l : List UInt8) : [DC.i (40 : Int)] :: brows l = brows (40 :: l) := rfl
theorem bc41 (l : List UInt8) : [DC.i (41 : Int)] :: brows l = brows (41 :: l) := rfl
theorem bc91 (l : List UInt8) : [DC.i (91 : Int)] :: brows l = brows (91 :: l) := rfl
theorem bc93 (l : List UInt8) : [DC.i (93 : Int)] :: brows l = brows (93 :: l) := rfl
theorem bc36 (l : List UInt8) : [DC.i (36 : Int)] :: brows l = brows (36 :: l) := rfl
theorem b64 : ([[DC.i (64 : Int)]] : List (List DC)) = brows [64] := rfl
theorem b58 : ([[DC.i (58 : Int)]] : List (List DC)) = brows [58] := rfl
theorem b44 : ([[DC.i (44 : Int)]] : List (List DC)) = brows [44] := rfl
theorem b46 : ([[DC.i (46 : Int)]] : List (List DC)) = brows [46] := rfl
theorem b36 : ([[DC.i (36 : Int)]] : List (List DC)) = brows [36] := rfl
theorem b40 : ([[DC.i (40 : Int)]] : List (List DC)) = brows [40] := rfl
theorem b41 : ([[DC.i (41 : Int)]] : List (List DC)) = brows [41] := rfl
theorem b91 : ([[DC.i (91 : Int)]] : List (List DC)) = brows [91] := rfl
theorem b93 : ([[DC.i (93 : Int)]] : List (List DC)) = brows [93] := rfl
theorem b123 : ([[DC.i (123 : Int)]] : List (List DC)) = brows [123] := rfl
theorem b125 : ([[DC.i (125 : Int)]] : List (List DC)) = brows [125] := rfl
theorem b32 : ([[DC.i (32 : Int)]] : List (List DC)) = brows [32] := rfl
theorem b10 : ([[DC.i (10 : Int)]] : List (List DC)) = brows [10] := rfl
theorem bs : (([[DC.i (64 : Int)]] : List (List DC)) = brows [64]) ∧ (([[DC.i (58 : Int)]] : List (List DC)) = brows [58]) ∧ (([[DC.i (44 : Int)]] : List (List DC)) = brows [44]) ∧ (([[DC.i (46 : Int)]] : List (List DC)) = brows [46]) ∧ (([[DC.i (36 : Int)]] : List (List DC)) = brows [36]) ∧ (([[DC.i (40 : Int)]] : List (List DC)) = brows [40]) ∧ (([[DC.i (41 : Int)]] : List (List DC)) = brows [41]) ∧ (([[DC.i (91 : Int)]] : List (List DC)) = brows [91]) ∧ (([[DC.i (93 : Int)]] : List (List DC)) = brows [93]) ∧ (([[DC.i (123 : Int)]] : List (List DC)) = brows [123]) ∧ (([[DC.i (125 : Int)]] : List (List DC)) = brows [125]) ∧ (([[DC.i (32 : Int)]] : List (List DC)) = brows [32]) ∧ (([[DC.i (10 : Int)]] : List (List DC)) = brows [10]) ∧ (∀ l : List UInt8, [DC.i (44 : Int)] :: brows l = brows (44 :: l)) ∧ (∀ l : List UInt8, [DC.i (58 : Int)] :: brows l = brows (58 :: l)) ∧ (∀ l : List UInt8, [DC.i (32 : Int)] :: brows l = brows (32 :: l)) ∧ (∀ l : List UInt8, [DC.i (46 : Int)] :: brows l = brows (46 :: l)) ∧ (∀ l : List UInt8, [DC.i (123 : Int)] :: brows l = brows (123 :: l)) ∧ (∀ l : List UInt8, [DC.i (64 : Int)] :: brows l = brows (64 :: l)) ∧ (∀ l : List UInt8, [DC.i (10 : Int)] :: brows l = brows (10 :: l)) ∧ (∀ l : List UInt8, [DC.i (125 : Int)] :: brows l = brows (125 :: l)) ∧ (∀ l : List UInt8, [DC.i (40 : Int)] :: brows l = brows (40 :: l)) ∧ (∀ l : List UInt8, [DC.i (41 : Int)] :: brows l = brows (41 :: l)) ∧ (∀ l : List UInt8, [DC.i (91 : Int)] :: brows l = brows (91 :: l)) ∧ (∀ l : List UInt8, [DC.i (93 : Int)] :: brows l = brows (93 :: l)) ∧ (∀ l : List UInt8, [DC.i (36 : Int)] :: brows l = brows (36 :: l)) := by
  and_intros <;> intros <;> rfl
theorem zip_map {α : Type} (g : List UInt8 → List UInt8 → List UInt8) (h : α → List UInt8) : ∀ (ns : List (List UInt8)) (l : List α), List.zipWith g ns (l.map h) = (ns.zip l).map fun p => g p.1 (h p.2)
  | [], l => by simp
  | n :: ns, [] => by simp
  | n :: ns, x :: l => by rw [List.map_cons, List.zipWith_cons_cons, List.zip_cons_cons, List.map_cons, zip_map g h ns l]
theorem spec_l07Say (v : TValue) : wtL v.enc ≤ 1048576 → ∀ room : Int, 0 ≤ room → room ≤ 10 → goodV room v = true → ∀ out : List UInt8, out.length + (valT v).length < 1073741824 →
    r_spec_l07Say [.sl (brows out), .i v.kind, .s v.text, .sl (v.items.map TValue.enc), .sl (v.names.map S1)] = .ret [.sl (brows (out ++ valT v))] := by
  induction v using TValue.ind with | h v ih =>
  intro hw room hr hr2 hg out ho
  obtain ⟨hs1, hs2, hs3⟩ := good_shape v hw room hr hr2 hg
  rw [val_wsum] at hw
  obtain ⟨hIl, hx⟩ := sl_wt (l := v.items) (enc := TValue.enc) (n := 1048576) (by omega)
  rw [eq_spec_l07Say]
  rw [valT_eq] at ho ⊢
  unfold valW at ho ⊢
  by_cases k1 : v.kind = 1
  · have c1 : (v.kind == 1) = true := beq_iff_eq.2 k1
    rw [if_pos k1] at ho ⊢
    simp only [List.length_cons] at ho
    simp (disch := first | omega | (simp only [List.length_append, List.length_cons, List.length_nil, brows_len, LIM] <;> omega) | fail) only [E_spec_l07Say, zz0, zz1, zb, zi, zs, zl, bytesRow_eq, brows_app', brows_len, List.length_append, List.length_cons, List.length_nil, LIM, if_true, if_false, zf, zr, Out.andThen_norm, Out.andThenB_ret, Out.andThenB_norm, Out.andThenB_ex, if_pos, Int.toNat_natCast, zm, true_and, and_self, decide_true, bs, c1]
    rw [List.append_assoc]
    rfl
  have c1 : (v.kind == 1) = false := beq_eq_false_iff_ne.2 k1
  rw [if_neg k1] at ho ⊢
  by_cases k4 : v.kind = 4
  · have c4 : (v.kind == 4) = true := beq_iff_eq.2 k4
    rw [if_pos k4] at ho ⊢
    have he := spec_Escaped v.text (by omega)
    simp (disch := first | omega | (simp only [List.length_append, List.length_cons, List.length_nil, brows_len, LIM] <;> omega) | fail) only [E_spec_l07Say, zz0, zz1, zb, zi, zs, zl, bytesRow_eq, brows_app', brows_len, List.length_append, List.length_cons, List.length_nil, LIM, if_true, if_false, zf, zr, Out.andThen_norm, Out.andThenB_ret, Out.andThenB_norm, Out.andThenB_ex, if_pos, Int.toNat_natCast, zm, true_and, and_self, decide_true, bs, c1, c4, he]
  have c4 : (v.kind == 4) = false := beq_eq_false_iff_ne.2 k4
  rw [if_neg k4] at ho ⊢
  by_cases k7 : v.kind = 7
  · have c7 : (v.kind == 7) = true := beq_iff_eq.2 k7
    have c8 : (v.kind == 8) = false := beq_eq_false_iff_ne.2 (by omega)
    rw [if_pos k7, ← jt_join] at ho ⊢
    simp only [List.length_cons, List.length_append, List.length_nil] at ho
    have hlp := jt_loop (o := []) (sep := [44, 32]) (f := valT) (l := v.items) (st := fun i cur => [.sl (brows cur), .i 93, .i (i : Int), .i v.kind, .s v.text, .sl (v.items.map TValue.enc), .sl (v.names.map S1)]) (F := E_spec_l07SayL1) (res := .ex 1 [.sl (brows ((out ++ [91]) ++ jt [] [44, 32] valT v.items)), .i 93]) (out ++ [91])
      (fun i hi cur hc => ?step) ?fin (Out.esc_ex _ _)
    case fin => simp [E_spec_l07SayL1]
    case step =>
      have hm := List.getElem_mem hi
      have hv := ih v.items[i] hm (hx _ hm) (room - 1) (hs3 _ hm).1 (by omega) (hs3 _ hm).2
      have c2 : 0 ≤ (i : Int) ∧ (i : Int) < (v.items.length : Int) := by omega
      have d : decide ((i : Int) < (v.items.length : Int)) = true := decide_eq_true (by omega)
      have wi := wrap_succ hi (show v.items.length ≤ 9223372036854775807 by omega)
      by_cases h0 : i = 0
      · have d0' : decide ((i : Int) > 0) = false := decide_eq_false (by omega)
        rw [if_pos h0] at hc ⊢
        simp only [List.length_append, List.length_cons, List.length_nil] at hc
        simp (disch := first | omega | (simp only [List.length_append, List.length_cons, List.length_nil, brows_len, LIM] <;> omega) | fail) only [E_spec_l07SayL1, zz0, zz1, zb, zi, zs, zl, bytesRow_eq, brows_app', brows_len, List.length_append, List.length_cons, List.length_nil, LIM, if_true, if_false, zf, zr, Out.andThen_norm, Out.andThenB_ret, Out.andThenB_norm, Out.andThenB_ex, if_pos, Int.toNat_natCast, zm, true_and, and_self, decide_true, bs, map_getD hi, TValue.enc_eq, d, d0', c2, c8, hv, wi]
        simp
      · have d0' : decide ((i : Int) > 0) = true := decide_eq_true (by omega)
        rw [if_neg h0] at hc ⊢
        simp only [List.length_append, List.length_cons, List.length_nil] at hc
        simp (disch := first | omega | (simp only [List.length_append, List.length_cons, List.length_nil, brows_len, LIM] <;> omega) | fail) only [E_spec_l07SayL1, zz0, zz1, zb, zi, zs, zl, bytesRow_eq, brows_app', brows_len, List.length_append, List.length_cons, List.length_nil, LIM, if_true, if_false, zf, zr, Out.andThen_norm, Out.andThenB_ret, Out.andThenB_norm, Out.andThenB_ex, if_pos, Int.toNat_natCast, zm, true_and, and_self, decide_true, bs, map_getD hi, TValue.enc_eq, d, d0', c2, c8, hv, wi]
        simp
    rw [Int.natCast_zero] at hlp
    simp (disch := first | omega | (simp only [List.length_append, List.length_cons, List.length_nil, brows_len, LIM] <;> omega) | fail) only [E_spec_l07Say, zz0, zz1, zb, zi, zs, zl, bytesRow_eq, brows_app', brows_len, List.length_append, List.length_cons, List.length_nil, LIM, if_true, if_false, zf, zr, Out.andThen_norm, Out.andThenB_ret, Out.andThenB_norm, Out.andThenB_ex, if_pos, Int.toNat_natCast, zm, true_and, and_self, decide_true, bs, c1, c4, c7, c8, hlp]
    simp
  have c7 : (v.kind == 7) = false := beq_eq_false_iff_ne.2 k7
  rw [if_neg k7] at ho ⊢
  by_cases k8 : v.kind = 8
  · have c8 : (v.kind == 8) = true := beq_iff_eq.2 k8
    rw [if_pos k8, zip_map, ← jt_join] at ho ⊢
    simp only [List.length_cons, List.length_append, List.length_nil] at ho
    have hn := hs2 k8
    have hzl : (v.names.zip v.items).length = v.items.length := by rw [List.length_zip]; omega
    have hlp := jt_loop (o := []) (sep := [44, 32]) (f := fun p : List UInt8 × TValue => p.1 ++ (58 :: 32 :: valT p.2)) (l := v.names.zip v.items) (st := fun i cur => [.sl (brows cur), .i 125, .i (i : Int), .i v.kind, .s v.text, .sl (v.items.map TValue.enc), .sl (v.names.map S1)]) (F := E_spec_l07SayL1) (res := .ex 1 [.sl (brows ((out ++ [123]) ++ jt [] [44, 32] (fun p : List UInt8 × TValue => p.1 ++ (58 :: 32 :: valT p.2)) (v.names.zip v.items))), .i 125]) (out ++ [123])
      (fun i hi cur hc => ?step2) ?fin2 (Out.esc_ex _ _)
    case fin2 => simp [E_spec_l07SayL1, hzl]
    case step2 =>
      have hi1 : i < v.items.length := by omega
      have hi2 : i < v.names.length := by omega
      have hz : (v.names.zip v.items)[i] = (v.names[i], v.items[i]) := List.getElem_zip
      have hm := List.getElem_mem hi1
      have hv := ih v.items[i] hm (hx _ hm) (room - 1) (hs3 _ hm).1 (by omega) (hs3 _ hm).2
      have c2 : 0 ≤ (i : Int) ∧ (i : Int) < (v.items.length : Int) := by omega
      have c3 : 0 ≤ (i : Int) ∧ (i : Int) < (v.names.length : Int) := by omega
      have d : decide ((i : Int) < (v.items.length : Int)) = true := decide_eq_true (by omega)
      have wi := wrap_succ hi1 (show v.items.length ≤ 9223372036854775807 by omega)
      rw [hz] at hc ⊢
      by_cases h0 : i = 0
      · have d0' : decide ((i : Int) > 0) = false := decide_eq_false (by omega)
        rw [if_pos h0] at hc ⊢
        simp only [List.length_append, List.length_cons, List.length_nil] at hc
        simp (disch := first | omega | (simp only [List.length_append, List.length_cons, List.length_nil, brows_len, LIM] <;> omega) | fail) only [E_spec_l07SayL1, zz0, zz1, zb, zi, zs, zl, bytesRow_eq, brows_app', brows_len, List.length_append, List.length_cons, List.length_nil, LIM, if_true, if_false, zf, zr, Out.andThen_norm, Out.andThenB_ret, Out.andThenB_norm, Out.andThenB_ex, if_pos, Int.toNat_natCast, zm, true_and, and_self, decide_true, bs, map_getD hi1, map_getD hi2, S1, TValue.enc_eq, d, d0', c2, c3, c8, hv, wi]
        simp
      · have d0' : decide ((i : Int) > 0) = true := decide_eq_true (by omega)
        rw [if_neg h0] at hc ⊢
        simp only [List.length_append, List.length_cons, List.length_nil] at hc
        simp (disch := first | omega | (simp only [List.length_append, List.length_cons, List.length_nil, brows_len, LIM] <;> omega) | fail) only [E_spec_l07SayL1, zz0, zz1, zb, zi, zs, zl, bytesRow_eq, brows_app', brows_len, List.length_append, List.length_cons, List.length_nil, LIM, if_true, if_false, zf, zr, Out.andThen_norm, Out.andThenB_ret, Out.andThenB_norm, Out.andThenB_ex, if_pos, Int.toNat_natCast, zm, true_and, and_self, decide_true, bs, map_getD hi1, map_getD hi2, S1, TValue.enc_eq, d, d0', c2, c3, c8, hv, wi]
        simp
    rw [Int.natCast_zero] at hlp
    simp (disch := first | omega | (simp only [List.length_append, List.length_cons, List.length_nil, brows_len, LIM] <;> omega) | fail) only [E_spec_l07Say, zz0, zz1, zb, zi, zs, zl, bytesRow_eq, brows_app', brows_len, List.length_append, List.length_cons, List.length_nil, LIM, if_true, if_false, zf, zr, Out.andThen_norm, Out.andThenB_ret, Out.andThenB_norm, Out.andThenB_ex, if_pos, Int.toNat_natCast, zm, true_and, and_self, decide_true, bs, c1, c4, c7, c8, hlp]
    simp
  have c8 : (v.kind == 8) = false := beq_eq_false_iff_ne.2 k8
  rw [if_neg k8] at ho ⊢
  simp (disch := first | omega | (simp only [List.length_append, List.length_cons, List.length_nil, brows_len, LIM] <;> omega) | fail) only [E_spec_l07Say, zz0, zz1, zb, zi, zs, zl, bytesRow_eq, brows_app', brows_len, List.length_append, List.length_cons, List.length_nil, LIM, if_true, if_false, zf, zr, Out.andThen_norm, Out.andThenB_ret, Out.andThenB_norm, Out.andThenB_ex, if_pos, Int.toNat_natCast, zm, true_and, and_self, decide_true, bs, c1, c4, c7, c8]
theorem Join_ok (ws : List (List UInt8)) (h : ws.length ≤ 1048576) (h2 : (Lib.join ws [44, 32]).length ≤ 1073741824) : r_strings_Join [.sl (ws.map fun x => [DC.s x]), .s [44, 32]] = .ret [.s (Lib.join ws [44, 32])] := by
  rw [eq_strings_Join]
  have : E_strings_Join [.sl (ws.map fun x => [DC.s x]), .s [44, 32]] = (match (match qJoin (ws.map fun x => [DC.s x]) [44, 32] with | some r => some [DC.s r] | none => none) with | some r => Out.ret r | none => .fail) := rfl
  rw [this, join_words ws _ (by omega) (by omega)]
theorem impl_printValue (v : TValue) : wtL v.enc ≤ 1048576 → ∀ room : Int, 0 ≤ room → room ≤ 10 → goodV room v = true → r_impl_printValue [.i v.kind, .s v.text, .sl (v.items.map TValue.enc), .sl (v.names.map S1)] = .ret [.s (valT v)] := by
  induction v using TValue.ind with | h v ih =>
  intro hw room hr hr2 hg
  obtain ⟨hs1, hs2, hs3⟩ := good_shape v hw room hr hr2 hg
  have hlen := valT_len v
  have hb : (valT v).length ≤ 8388610 := by omega
  clear hlen
  rw [val_wsum] at hw
  obtain ⟨hIl, hx⟩ := sl_wt (l := v.items) (enc := TValue.enc) (n := 1048576) (by omega)
  have hns := (strs_len (l := v.names) (by omega)).2
  rw [eq_impl_printValue]
  rw [valT_eq] at hb ⊢
  unfold valW at hb ⊢
  have hempty : v.items = [] → Loop E_impl_printValueL1 [.sl [], .sl (v.items.map TValue.enc), .i (v.items.length : Int), .i 0, .i v.kind, .s v.text, .sl (v.items.map TValue.enc), .sl (v.names.map S1)] = .ex 0 [.sl ((([] : List (List UInt8))).map fun x => [DC.s x]), .i v.kind, .s v.text, .sl (v.items.map TValue.enc), .sl (v.names.map S1)] := by
    intro h
    rw [h]
    refine Loop_ex ?_
    simp [E_impl_printValueL1]
  have hJ0 := Join_ok [] (by simp) (by simp [Lib.join])
  rw [show Lib.join ([] : List (List UInt8)) [44, 32] = [] from rfl] at hJ0
  by_cases k1 : v.kind = 1
  · have c1 : (v.kind == 1) = true := beq_iff_eq.2 k1
    have hl := hempty (hs1 (by omega) (by omega))
    rw [if_pos k1] at hb ⊢
    simp only [List.length_cons] at hb
    simp (disch := first | omega | (simp only [List.length_append, List.length_cons, List.length_nil, brows_len, LIM] <;> omega) | fail) only [E_impl_printValue, zz0, zz1, zb, zi, zs, zl, bytesRow_eq, brows_app', brows_len, List.length_append, List.length_cons, List.length_nil, LIM, if_true, if_false, zf, zr, Out.andThen_norm, Out.andThenB_ret, Out.andThenB_norm, Out.andThenB_ex, if_pos, Int.toNat_natCast, zm, true_and, and_self, decide_true, bs, hl, hJ0, c1]
    rfl
  have c1 : (v.kind == 1) = false := beq_eq_false_iff_ne.2 k1
  rw [if_neg k1] at hb ⊢
  by_cases k4 : v.kind = 4
  · have c4 : (v.kind == 4) = true := beq_iff_eq.2 k4
    have hl := hempty (hs1 (by omega) (by omega))
    rw [if_pos k4] at hb ⊢
    have he := impl_Escaped v.text (by omega)
    simp (disch := first | omega | (simp only [List.length_append, List.length_cons, List.length_nil, brows_len, LIM] <;> omega) | fail) only [E_impl_printValue, zz0, zz1, zb, zi, zs, zl, bytesRow_eq, brows_app', brows_len, List.length_append, List.length_cons, List.length_nil, LIM, if_true, if_false, zf, zr, Out.andThen_norm, Out.andThenB_ret, Out.andThenB_norm, Out.andThenB_ex, if_pos, Int.toNat_natCast, zm, true_and, and_self, decide_true, bs, hl, hJ0, c1, c4, he]
  have c4 : (v.kind == 4) = false := beq_eq_false_iff_ne.2 k4
  rw [if_neg k4] at hb ⊢
  by_cases k7 : v.kind = 7
  · have c7 : (v.kind == 7) = true := beq_iff_eq.2 k7
    have c8 : (v.kind == 8) = false := beq_eq_false_iff_ne.2 (by omega)
    rw [if_pos k7] at hb ⊢
    simp only [List.length_cons, List.length_append, List.length_nil] at hb
    have hJ := Join_ok (v.items.map valT) (by rw [zm]; exact hIl) (by omega)
    have hlp := words_loop (w := valT) (l := v.items) (st := fun i cur => [.sl cur, .sl (v.items.map TValue.enc), .i (v.items.length : Int), .i (i : Int), .i v.kind, .s v.text, .sl (v.items.map TValue.enc), .sl (v.names.map S1)]) (F := E_impl_printValueL1) (res := .ex 0 [.sl ((v.items.map valT).map fun x => [DC.s x]), .i v.kind, .s v.text, .sl (v.items.map TValue.enc), .sl (v.names.map S1)])
      (fun i hi cur hc => ?step) ?fin (Out.esc_ex _ _)
    case fin => simp [E_impl_printValueL1, Function.comp_def]
    case step =>
      have hm := List.getElem_mem hi
      have hv := ih v.items[i] hm (hx _ hm) (room - 1) (hs3 _ hm).1 (by omega) (hs3 _ hm).2
      have c2 : 0 ≤ (i : Int) ∧ (i : Int) < (v.items.length : Int) := by omega
      have d : decide ((i : Int) < (v.items.length : Int)) = true := decide_eq_true (by omega)
      have wi := wrap_succ hi (show v.items.length ≤ 9223372036854775807 by omega)
      simp (disch := first | omega | (simp only [List.length_append, List.length_cons, List.length_nil, brows_len, LIM] <;> omega) | fail) only [E_impl_printValueL1, zz0, zz1, zb, zi, zs, zl, bytesRow_eq, brows_app', brows_len, List.length_append, List.length_cons, List.length_nil, LIM, if_true, if_false, zf, zr, Out.andThen_norm, Out.andThenB_ret, Out.andThenB_norm, Out.andThenB_ex, if_pos, Int.toNat_natCast, zm, true_and, and_self, decide_true, bs, map_getD hi, TValue.enc_eq, d, c2, c8, hv, wi]
    rw [Int.natCast_zero] at hlp
    simp (disch := first | omega | (simp only [List.length_append, List.length_cons, List.length_nil, brows_len, LIM] <;> omega) | fail) only [E_impl_printValue, zz0, zz1, zb, zi, zs, zl, bytesRow_eq, brows_app', brows_len, List.length_append, List.length_cons, List.length_nil, LIM, if_true, if_false, zf, zr, Out.andThen_norm, Out.andThenB_ret, Out.andThenB_norm, Out.andThenB_ex, if_pos, Int.toNat_natCast, zm, true_and, and_self, decide_true, bs, c1, c4, c7, c8, hlp, hJ]
    simp
  have c7 : (v.kind == 7) = false := beq_eq_false_iff_ne.2 k7
  rw [if_neg k7] at hb ⊢
  by_cases k8 : v.kind = 8
  · have c8 : (v.kind == 8) = true := beq_iff_eq.2 k8
    rw [if_pos k8, zip_map] at hb ⊢
    simp only [List.length_cons, List.length_append, List.length_nil] at hb
    have hn := hs2 k8
    have hzl : (v.names.zip v.items).length = v.items.length := by rw [List.length_zip]; omega
    have hJ := Join_ok ((v.names.zip v.items).map fun p => p.1 ++ (58 :: 32 :: valT p.2)) (by rw [zm]; omega) (by omega)
    have hlp := words_loop (w := fun p : List UInt8 × TValue => p.1 ++ (58 :: 32 :: valT p.2)) (l := v.names.zip v.items) (st := fun i cur => [.sl cur, .sl (v.items.map TValue.enc), .i (v.items.length : Int), .i (i : Int), .i v.kind, .s v.text, .sl (v.items.map TValue.enc), .sl (v.names.map S1)]) (F := E_impl_printValueL1) (res := .ex 0 [.sl (((v.names.zip v.items).map fun p => p.1 ++ (58 :: 32 :: valT p.2)).map fun x => [DC.s x]), .i v.kind, .s v.text, .sl (v.items.map TValue.enc), .sl (v.names.map S1)])
      (fun i hi cur hc => ?step2) ?fin2 (Out.esc_ex _ _)
    case fin2 => simp [E_impl_printValueL1, hzl, Function.comp_def]
    case step2 =>
      have hi1 : i < v.items.length := by omega
      have hi2 : i < v.names.length := by omega
      have hz : (v.names.zip v.items)[i] = (v.names[i], v.items[i]) := List.getElem_zip
      have hm := List.getElem_mem hi1
      have hv := ih v.items[i] hm (hx _ hm) (room - 1) (hs3 _ hm).1 (by omega) (hs3 _ hm).2
      have hlv := valT_len v.items[i]
      have hwv := hx _ hm
      have hnl := hns _ (List.getElem_mem hi2)
      have c2 : 0 ≤ (i : Int) ∧ (i : Int) < (v.items.length : Int) := by omega
      have c3 : 0 ≤ (i : Int) ∧ (i : Int) < (v.names.length : Int) := by omega
      have d : decide ((i : Int) < (v.items.length : Int)) = true := decide_eq_true (by omega)
      have wi := wrap_succ hi1 (show v.items.length ≤ 9223372036854775807 by omega)
      rw [hz]
      simp (disch := first | omega | (simp only [List.length_append, List.length_cons, List.length_nil, brows_len, LIM] <;> omega) | fail) only [E_impl_printValueL1, zz0, zz1, zb, zi, zs, zl, bytesRow_eq, brows_app', brows_len, List.length_append, List.length_cons, List.length_nil, LIM, if_true, if_false, zf, zr, Out.andThen_norm, Out.andThenB_ret, Out.andThenB_norm, Out.andThenB_ex, if_pos, Int.toNat_natCast, zm, true_and, and_self, decide_true, bs, map_getD hi1, map_getD hi2, S1, TValue.enc_eq, d, c2, c3, c8, hv, wi]
      simp
    rw [Int.natCast_zero] at hlp
    simp (disch := first | omega | (simp only [List.length_append, List.length_cons, List.length_nil, brows_len, LIM] <;> omega) | fail) only [E_impl_printValue, zz0, zz1, zb, zi, zs, zl, bytesRow_eq, brows_app', brows_len, List.length_append, List.length_cons, List.length_nil, LIM, if_true, if_false, zf, zr, Out.andThen_norm, Out.andThenB_ret, Out.andThenB_norm, Out.andThenB_ex, if_pos, Int.toNat_natCast, zm, true_and, and_self, decide_true, bs, c1, c4, c7, c8, hlp, hJ]
    simp
  have c8 : (v.kind == 8) = false := beq_eq_false_iff_ne.2 k8
  have hl := hempty (hs1 k7 k8)
  rw [if_neg k8] at hb ⊢
  simp (disch := first | omega | (simp only [List.length_append, List.length_cons, List.length_nil, brows_len, LIM] <;> omega) | fail) only [E_impl_printValue, zz0, zz1, zb, zi, zs, zl, bytesRow_eq, brows_app', brows_len, List.length_append, List.length_cons, List.length_nil, LIM, if_true, if_false, zf, zr, Out.andThen_norm, Out.andThenB_ret, Out.andThenB_norm, Out.andThenB_ex, if_pos, Int.toNat_natCast, zm, true_and, and_self, decide_true, bs, hl, hJ0, c1, c4, c7, c8]
theorem arg_good {l : List TArg} (hg : argsOk l = true) {a : TArg} (ha : a ∈ l) : goodV 10 a.value = true := by
  have := List.all_eq_true.1 hg a ha
  simp only [argOk, Bool.and_eq_true] at this
  exact this.2
theorem dir_good {l : List TDir} (hg : dirsOk l = true) {d : TDir} (hd : d ∈ l) : argsOk d.args = true := by
  have := List.all_eq_true.1 hg d hd
  simp only [dirOk, Bool.and_eq_true] at this
  exact this.2
theorem spec_l10Say (l : List TArg) (hw : DC.wt (.sl (l.map TArg.enc)) ≤ 1048576) (hg : argsOk l = true) (out : List UInt8) (ho : out.length + (argsT l).length < 1073741824) :
    r_spec_l10Say [.sl (brows out), .sl (l.map TArg.enc)] = .ret [.sl (brows (out ++ argsT l))] := by
  obtain ⟨hl, hx⟩ := sl_wt hw
  unfold argsT at ho ⊢
  rw [List.length_append] at ho
  have hlp := jt_loop (o := [40]) (sep := [44, 32]) (f := argT) (l := l) (st := fun i cur => [.sl (brows cur), .sl (l.map TArg.enc), .i (i : Int)]) (F := E_spec_l10SayL1) (res := .ex 0 [.sl (brows (out ++ jt [40] [44, 32] argT l)), .sl (l.map TArg.enc)]) out
    (fun i hi cur hc => ?step) ?fin (Out.esc_ex _ _)
  case fin => simp [E_spec_l10SayL1]
  case step =>
    have hm := List.getElem_mem hi
    have hwv := hx _ hm
    rw [arg_wt] at hwv
    have hv := spec_l07Say l[i].value (by omega) 10 (by omega) (by omega) (arg_good hg hm)
    have c2 : 0 ≤ (i : Int) ∧ (i : Int) < (l.length : Int) := by omega
    have d : decide ((i : Int) < (l.length : Int)) = true := decide_eq_true (by omega)
    have wi := wrap_succ hi (show l.length ≤ 9223372036854775807 by omega)
    unfold argT at hc ⊢
    by_cases h0 : i = 0
    · have c0 : ((i : Int) == 0) = true := beq_iff_eq.2 (by omega)
      rw [if_pos h0] at hc ⊢
      simp only [List.length_append, List.length_cons, List.length_nil] at hc
      unfold argT at ho
      simp (disch := first | omega | (simp only [List.length_append, List.length_cons, List.length_nil, brows_len, LIM] <;> omega) | fail) only [E_spec_l10SayL1, zz0, zz1, zb, zi, zs, zl, bytesRow_eq, brows_app', brows_len, List.length_append, List.length_cons, List.length_nil, LIM, if_true, if_false, zf, zr, Out.andThen_norm, Out.andThenB_ret, Out.andThenB_norm, Out.andThenB_ex, if_pos, Int.toNat_natCast, zm, true_and, and_self, decide_true, bs, map_getD hi, TArg.enc_eq, d, c0, c2, hv, wi]
      simp
    · have c0 : ((i : Int) == 0) = false := beq_eq_false_iff_ne.2 (by omega)
      rw [if_neg h0] at hc ⊢
      simp only [List.length_append, List.length_cons, List.length_nil] at hc
      unfold argT at ho
      simp (disch := first | omega | (simp only [List.length_append, List.length_cons, List.length_nil, brows_len, LIM] <;> omega) | fail) only [E_spec_l10SayL1, zz0, zz1, zb, zi, zs, zl, bytesRow_eq, brows_app', brows_len, List.length_append, List.length_cons, List.length_nil, LIM, if_true, if_false, zf, zr, Out.andThen_norm, Out.andThenB_ret, Out.andThenB_norm, Out.andThenB_ex, if_pos, Int.toNat_natCast, zm, true_and, and_self, decide_true, bs, map_getD hi, TArg.enc_eq, d, c0, c2, hv, wi]
      simp
  rw [Int.natCast_zero] at hlp
  rw [eq_spec_l10Say]
  cases l with
  | nil => simp at hlp; simp [E_spec_l10Say, hlp]
  | cons a l =>
    have hpos : decide ((((a :: l).map TArg.enc).length : Int) > 0) = true := decide_eq_true (by simp)
    simp only [List.isEmpty_cons, zf, if_false, List.length_cons, List.length_nil] at ho
    simp only [zm] at hpos
    simp (disch := first | omega | (simp only [List.length_append, List.length_cons, List.length_nil, brows_len, LIM] <;> omega) | fail) only [E_spec_l10Say, zz0, zz1, zb, zi, zs, zl, bytesRow_eq, brows_app', brows_len, List.length_append, List.length_cons, List.length_nil, LIM, if_true, if_false, zf, zr, Out.andThen_norm, Out.andThenB_ret, Out.andThenB_norm, Out.andThenB_ex, if_pos, Int.toNat_natCast, zm, true_and, and_self, decide_true, bs, hlp, hpos, List.isEmpty_cons]
    simp
theorem spec_l10SayDirs (l : List TDir) (hw : DC.wt (.sl (l.map TDir.enc)) ≤ 1048576) (hg : dirsOk l = true) (out : List UInt8) (ho : out.length + (dirsT l).length < 1073741824) :
    r_spec_l10SayDirs [.sl (brows out), .sl (l.map TDir.enc)] = .ret [.sl (brows (out ++ dirsT l))] := by
  obtain ⟨hl, hx⟩ := sl_wt hw
  unfold dirsT at ho ⊢
  have hlp := jt_loop (o := []) (sep := []) (f := dirT) (l := l) (st := fun i cur => [.sl (brows cur), .sl (l.map TDir.enc), .i (i : Int)]) (F := E_spec_l10SayDirsL1) (res := .ex 0 [.sl (brows (out ++ jt [] [] dirT l))]) out
    (fun i hi cur hc => ?step) ?fin (Out.esc_ex _ _)
  case fin => simp [E_spec_l10SayDirsL1]
  case step =>
    have hm := List.getElem_mem hi
    have hwv := hx _ hm
    rw [dir_wt] at hwv
    have hv := spec_l10Say l[i].args (by omega) (dir_good hg hm)
    have c2 : 0 ≤ (i : Int) ∧ (i : Int) < (l.length : Int) := by omega
    have d : decide ((i : Int) < (l.length : Int)) = true := decide_eq_true (by omega)
    have wi := wrap_succ hi (show l.length ≤ 9223372036854775807 by omega)
    rw [ite_self, List.nil_append] at hc ⊢
    unfold dirT at hc ⊢
    simp only [List.length_append, List.length_cons, List.length_nil] at hc
    unfold dirT at ho
    simp (disch := first | omega | (simp only [List.length_append, List.length_cons, List.length_nil, brows_len, LIM] <;> omega) | fail) only [E_spec_l10SayDirsL1, zz0, zz1, zb, zi, zs, zl, bytesRow_eq, brows_app', brows_len, List.length_append, List.length_cons, List.length_nil, LIM, if_true, if_false, zf, zr, Out.andThen_norm, Out.andThenB_ret, Out.andThenB_norm, Out.andThenB_ex, if_pos, Int.toNat_natCast, zm, true_and, and_self, decide_true, bs, map_getD hi, TDir.enc_eq, d, c2, hv, wi]
    simp
  rw [Int.natCast_zero] at hlp
  rw [eq_spec_l10SayDirs]
  simp only [E_spec_l10SayDirs, zz0, zz1, zb, zi, zs, zl, hlp, Out.andThenB_ex, if_true]
theorem impl_ArgsText (l : List TArg) (hw : DC.wt (.sl (l.map TArg.enc)) ≤ 1048576) (hg : argsOk l = true) : r_impl_ArgsText [.sl (l.map TArg.enc)] = .ret [.s (argsT l)] := by
  obtain ⟨hl, hx⟩ := sl_wt hw
  have hb := args_len l
  have hA := impl_ArgsOk l hw
  rw [hg] at hA
  rw [eq_impl_ArgsText]
  cases l with
  | nil => simp [E_impl_ArgsText, argsT_nil]
  | cons a0 l0 =>
    have hz : ((((a0 :: l0).map TArg.enc).length : Int) == 0) = false := beq_eq_false_iff_ne.2 (by simp; omega)
    rw [argsT_cons] at hb ⊢
    generalize hL : a0 :: l0 = l at *
    simp only [List.length_cons, List.length_append, List.length_nil] at hb
    have hJ := Join_ok (l.map argT) (by rw [zm]; exact hl) (by omega)
    have hlp := words_loop (w := argT) (l := l) (st := fun i cur => [.sl cur, .sl (l.map TArg.enc), .i (l.length : Int), .i (i : Int)]) (F := E_impl_ArgsTextL1) (res := .ex 0 [.sl ((l.map argT).map fun x => [DC.s x])])
      (fun i hi cur hc => ?step) ?fin (Out.esc_ex _ _)
    case fin => simp [E_impl_ArgsTextL1, Function.comp_def]
    case step =>
      have hm := List.getElem_mem hi
      have hwv := hx _ hm
      have hla := arg_len l[i]
      rw [arg_wt] at hwv hla
      have hv := impl_printValue l[i].value (by omega) 10 (by omega) (by omega) (arg_good hg hm)
      have c2 : 0 ≤ (i : Int) ∧ (i : Int) < (l.length : Int) := by omega
      have d : decide ((i : Int) < (l.length : Int)) = true := decide_eq_true (by omega)
      have wi := wrap_succ hi (show l.length ≤ 9223372036854775807 by omega)
      unfold argT at hla ⊢
      simp only [List.length_append, List.length_cons] at hla
      simp (disch := first | omega | (simp only [List.length_append, List.length_cons, List.length_nil, brows_len, LIM] <;> omega) | fail) only [E_impl_ArgsTextL1, zz0, zz1, zb, zi, zs, zl, bytesRow_eq, brows_app', brows_len, List.length_append, List.length_cons, List.length_nil, LIM, if_true, if_false, zf, zr, Out.andThen_norm, Out.andThenB_ret, Out.andThenB_norm, Out.andThenB_ex, if_pos, Int.toNat_natCast, zm, true_and, and_self, decide_true, bs, map_getD hi, TArg.enc_eq, d, c2, hv, wi]
      simp
    rw [Int.natCast_zero] at hlp
    simp only [zm] at hz
    simp (disch := first | omega | (simp only [List.length_append, List.length_cons, List.length_nil, brows_len, LIM] <;> omega) | fail) only [E_impl_ArgsText, zz0, zz1, zb, zi, zs, zl, bytesRow_eq, brows_app', brows_len, List.length_append, List.length_cons, List.length_nil, LIM, if_true, if_false, zf, zr, Out.andThen_norm, Out.andThenB_ret, Out.andThenB_norm, Out.andThenB_ex, if_pos, Int.toNat_natCast, zm, true_and, and_self, decide_true, bs, hz, hA, hlp, hJ, Bool.not_true]
    simp
theorem impl_DirsText (l : List TDir) (hw : DC.wt (.sl (l.map TDir.enc)) ≤ 1048576) (hg : dirsOk l = true) : r_impl_DirsText [.sl (l.map TDir.enc)] = .ret [.s (dirsT l)] := by
  obtain ⟨hl, hx⟩ := sl_wt hw
  have hb := dirs_len l
  have hA := impl_DirsOk l hw
  rw [hg] at hA
  rw [eq_impl_DirsText]
  unfold dirsT at hb ⊢
  have hlp := jt_loop (o := []) (sep := []) (f := dirT) (l := l) (st := fun i cur => [.s cur, .sl (l.map TDir.enc), .i (l.length : Int), .i (i : Int)]) (F := E_impl_DirsTextL1) (res := .ex 0 [.s ([] ++ jt [] [] dirT l)]) []
    (fun i hi cur hc => ?step) ?fin (Out.esc_ex _ _)
  case fin => simp [E_impl_DirsTextL1]
  case step =>
    have hm := List.getElem_mem hi
    have hwv := hx _ hm
    rw [dir_wt] at hwv
    have hv := impl_ArgsText l[i].args (by omega) (dir_good hg hm)
    have hla := args_len l[i].args
    have c2 : 0 ≤ (i : Int) ∧ (i : Int) < (l.length : Int) := by omega
    have d : decide ((i : Int) < (l.length : Int)) = true := decide_eq_true (by omega)
    have wi := wrap_succ hi (show l.length ≤ 9223372036854775807 by omega)
    rw [ite_self, List.nil_append] at hc ⊢
    unfold dirT at hc ⊢
    simp only [List.length_append, List.length_cons, List.length_nil] at hc
    unfold dirT at hb
    simp (disch := first | omega | (simp only [List.length_append, List.length_cons, List.length_nil, brows_len, LIM] <;> omega) | fail) only [E_impl_DirsTextL1, zz0, zz1, zb, zi, zs, zl, bytesRow_eq, brows_app', brows_len, List.length_append, List.length_cons, List.length_nil, LIM, if_true, if_false, zf, zr, Out.andThen_norm, Out.andThenB_ret, Out.andThenB_norm, Out.andThenB_ex, if_pos, Int.toNat_natCast, zm, true_and, and_self, decide_true, bs, map_getD hi, TDir.enc_eq, d, c2, hv, wi]
    simp
  rw [Int.natCast_zero, List.nil_append] at hlp
  simp only [E_impl_DirsText, zz0, zz1, zb, zi, zs, zl, hA, hlp, zm, Bool.not_true, zf, if_false, zr, Out.andThenB_ex, if_true]
end Go.Proofs.QV
