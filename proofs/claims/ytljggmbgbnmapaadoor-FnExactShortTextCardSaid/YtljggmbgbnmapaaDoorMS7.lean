import Derived.Test.YtljggmbgbnmapaaDoorMS6
import Derived.Lib.ValidLaws
import Derived.Lib.TrimUEq
import Derived.Test.YtljggmbgbnmapaaDoorMS5
/- Texts: what both implementations answer. -/
namespace Go.Proofs.YtljggmbgbnmapaaDoorV
open Go
set_option linter.unusedVariables false
set_option linter.unusedSimpArgs false
set_option maxRecDepth 100000

theorem spec_l01In (n a b : Int) : r_spec_l01In [.i n, .i a, .i b] = .ret [.b (decide (a ≤ n) && decide (n ≤ b))] := by
  rw [eq_spec_l01In]
  simp only [E_spec_l01In, List.getD_cons_zero, List.getD_cons_succ, DC.bb_b, DC.ii_i]
  by_cases h : a ≤ n
  · have : decide (n ≥ a) = true := decide_eq_true h
    simp [this, h]
  · have : decide (n ≥ a) = false := decide_eq_false h
    simp [this, h]

def scalar (n : Int) : Bool := decide (0 ≤ n ∧ n ≤ 1114111) && !decide (55296 ≤ n ∧ n ≤ 57343)
theorem spec_l02Scalar (n : Int) : r_spec_l02Scalar [.i n] = .ret [.b (scalar n)] := by
  rw [eq_spec_l02Scalar]
  simp only [E_spec_l02Scalar, List.getD_cons_zero, List.getD_cons_succ, DC.bb_b, DC.ii_i, spec_l01In, Out.bindR_ret, scalar, Bool.decide_and]
  cases (decide (0 ≤ n) && decide (n ≤ 1114111)) <;> simp

/-- How many bytes a scalar takes. -/
def runeLen (n : Int) : Nat := if scalar n = true then (if n < 128 then 1 else if n < 2048 then 2 else if n < 65536 then 3 else 4) else 0
theorem spec_RuneText (n : Int) : ∃ t : List UInt8, r_spec_RuneText [.i n] = .ret [.s t] ∧ t.length = runeLen n := by
  rw [eq_spec_RuneText]
  simp only [E_spec_RuneText, List.getD_cons_zero, List.getD_cons_succ, DC.bb_b, DC.ii_i, spec_l02Scalar, Out.bindR_ret, runeLen]
  cases scalar n with
  | false => exact ⟨[], by simp, by simp⟩
  | true =>
    simp only [Bool.not_true, Bool.false_eq_true, if_false, if_true, show ¬ (64 : Int) = 0 by decide, show ¬ (4096 : Int) = 0 by decide, show ¬ (262144 : Int) = 0 by decide]
    by_cases h1 : n < 128
    · exact ⟨_, by simp only [h1, decide_true, if_true]; rfl, by simp [h1, rowBytes]⟩
    · by_cases h2 : n < 2048
      · exact ⟨_, by simp only [h1, h2, decide_true, decide_false, Bool.false_eq_true, if_true, if_false]; rfl, by simp [h1, h2, rowBytes]⟩
      · by_cases h3 : n < 65536
        · exact ⟨_, by simp only [h1, h2, h3, decide_true, decide_false, Bool.false_eq_true, if_true, if_false]; rfl, by simp [h1, h2, h3, rowBytes]⟩
        · exact ⟨_, by simp only [h1, h2, h3, decide_true, decide_false, Bool.false_eq_true, if_true, if_false]; rfl, by simp [h1, h2, h3, rowBytes]⟩

theorem RuneAt_step (s : List UInt8) (i m j : Nat) (n : Int) (hs : s.length ≤ 1048576) (hj : j < m) (hi : i + j < s.length) (h0 : 0 ≤ n) (h1 : n < 16777216) :
    E_spec_RuneAtL1 [.s s, .i (i : Int), .i (m : Int), .i n, .i (j : Int)] = if 128 ≤ (s.getD (i + j) 0).toNat ∧ (s.getD (i + j) 0).toNat ≤ 191 then .norm [.s s, .i (i : Int), .i (m : Int), .i (n * 64 + (s.getD (i + j) 0).toNat - 128), .i ((j + 1 : Nat) : Int)] else .ret [.i (-1), .i 0] := by
  have e1 : decide ((j : Int) < (m : Int)) = true := decide_eq_true (by omega)
  have w1 : IntKind.i64.wrap ((i : Int) + (j : Int)) = ((i + j : Nat) : Int) := by rw [wrap64 (by omega) (by omega)]; omega
  have e2 : 0 ≤ ((i + j : Nat) : Int) ∧ ((i + j : Nat) : Int) < (s.length : Int) := by omega
  have hb := (s.getD (i + j) 0).toNat_lt
  simp only [E_spec_RuneAtL1, List.getD_cons_zero, List.getD_cons_succ, DC.bb_b, DC.ii_i, DC.ss_s, e1, w1, e2, if_true, and_self, decide_true, Int.toNat_natCast]
  generalize (s.getD (i + j) 0).toNat = c at *
  have w2 : IntKind.i64.wrap (c : Int) = c := wrap64 (by omega) (by omega)
  have w3 : IntKind.i64.wrap (n * 64) = n * 64 := wrap64 (by omega) (by omega)
  have w4 : IntKind.i64.wrap (n * 64 + c) = n * 64 + c := wrap64 (by omega) (by omega)
  have w5 : IntKind.i64.wrap (n * 64 + c - 128) = n * 64 + c - 128 := wrap64 (by omega) (by omega)
  have w6 : IntKind.i64.wrap ((j : Int) + 1) = ((j + 1 : Nat) : Int) := by rw [wrap64 (by omega) (by omega)]; omega
  rw [w2]
  by_cases h2 : c < 128
  · have d1 : decide ((c : Int) < 128) = true := decide_eq_true (by omega)
    simp only [d1, if_true, Out.andThen_norm, List.getD_cons_zero, List.getD_cons_succ, DC.bb_b]
    rw [if_neg (show ¬ (128 ≤ c ∧ c ≤ 191) by omega)]
    rfl
  · have d1 : decide ((c : Int) < 128) = false := decide_eq_false (by omega)
    simp only [d1, Bool.false_eq_true, if_false, Out.andThen_norm, List.getD_cons_zero, List.getD_cons_succ, DC.bb_b, DC.ii_i, DC.ss_s]
    by_cases h3 : c ≤ 191
    · have d2 : decide ((c : Int) > 191) = false := decide_eq_false (by omega)
      rw [if_pos (show 128 ≤ c ∧ c ≤ 191 by omega), d2]
      simp only [Bool.false_eq_true, if_false, w3, w4, w5]
      show Out.norm _ = _
      simp only [List.getD_cons_zero, List.getD_cons_succ, DC.ii_i, DC.ss_s, w6]
    · have d2 : decide ((c : Int) > 191) = true := decide_eq_true (by omega)
      rw [if_neg (show ¬ (128 ≤ c ∧ c ≤ 191) by omega), d2]
      rfl
theorem RuneAt_end (s : List UInt8) (i m : Nat) (n : Int) : E_spec_RuneAtL1 [.s s, .i (i : Int), .i (m : Int), .i n, .i (m : Int)] = .ex 1 [.i (m : Int), .i n] := by
  simp [E_spec_RuneAtL1]

/-- What stands at a place, by the library's decoding. -/
def runeAt (d : Nat × Nat) : List DC := if d.1 = 65533 ∧ d.2 = 1 then [.i (-1), .i 0] else [.i (d.1 : Int), .i (d.2 : Int)]

def cont (c : Nat) : Bool := decide (128 ≤ c) && decide (c ≤ 191)
def finR (m : Nat) (n : Int) : List DC := if runeLen n = m then [.i n, .i (m : Int)] else [.i (-1), .i 0]
def specR (N b1 b2 b3 m : Nat) (n0 : Int) : List DC :=
  if N < m then [.i (-1), .i 0] else
  if cont b1 = false then [.i (-1), .i 0] else
  if m = 2 then finR 2 (n0 * 64 + b1 - 128) else
  if cont b2 = false then [.i (-1), .i 0] else
  if m = 3 then finR 3 ((n0 * 64 + b1 - 128) * 64 + b2 - 128) else
  if cont b3 = false then [.i (-1), .i 0] else
  finR 4 (((n0 * 64 + b1 - 128) * 64 + b2 - 128) * 64 + b3 - 128)
theorem cont_true {c : Nat} (h : cont c = true) : c / 64 = 2 ∧ c % 64 = c - 128 ∧ 128 ≤ c ∧ c ≤ 191 := by
  unfold cont at h
  simp only [Bool.and_eq_true, decide_eq_true_eq] at h
  omega
theorem cont_false {c : Nat} (hc : c < 256) (h : cont c = false) : ¬ c / 64 = 2 := by
  unfold cont at h
  simp only [Bool.and_eq_false_iff, decide_eq_false_iff_not] at h
  omega
theorem bad_eq : runeAt (65533, 1) = [.i (-1), .i 0] := rfl
theorem finR_eq (m : Nat) (n : Int) (k : Nat) (hm : 2 ≤ m) (hk : n = (k : Int)) (h : runeLen n = m) : finR m n = runeAt (k, m) := by
  unfold finR runeAt
  rw [if_pos h, if_neg (by simp only; omega), hk]
theorem finR_bad (m : Nat) (n : Int) (h : ¬ runeLen n = m) : finR m n = runeAt (65533, 1) := by
  unfold finR
  rw [if_neg h]; rfl
theorem pure2 (N b0 b1 b2 b3 : Nat) (h : 194 ≤ b0 ∧ b0 < 224) (h1 : b1 < 256) : specR N b1 b2 b3 2 ((b0 : Int) - 192) = runeAt (Lib.decodeN N b0 b1 b2 b3) := by
  have hd : Lib.decodeN N b0 b1 b2 b3 = if 1 < N ∧ b1 / 64 = 2 then (if b0 % 32 * 64 + b1 % 64 ≥ 128 then (b0 % 32 * 64 + b1 % 64, 2) else (65533, 1)) else (65533, 1) := by
    unfold Lib.decodeN
    rw [if_neg (by omega)]
    by_cases hc : 1 < N ∧ b1 / 64 = 2
    · rw [if_pos ⟨by omega, hc⟩, if_pos hc]
    · rw [if_neg (fun h => hc h.2), if_neg hc, if_neg (by omega), if_neg (by omega)]
  rw [hd]
  unfold specR
  by_cases hN : N < 2
  · rw [if_pos hN, if_neg (by omega)]; rfl
  rw [if_neg hN]
  cases hc : cont b1 with
  | false => rw [if_pos rfl, if_neg (fun h => cont_false h1 hc h.2)]; rfl
  | true =>
    obtain ⟨k1, k2, k3, k4⟩ := cont_true hc
    rw [if_neg (by simp), if_pos rfl, if_pos ⟨by omega, k1⟩, if_pos (by omega)]
    refine finR_eq 2 _ _ (by omega) (by omega) ?_
    unfold runeLen scalar
    rw [if_pos (by simp; omega), if_neg (by omega), if_pos (by omega)]
theorem pure3 (N b0 b1 b2 b3 : Nat) (h : 224 ≤ b0 ∧ b0 < 240) (h1 : b1 < 256) (h2 : b2 < 256) : specR N b1 b2 b3 3 ((b0 : Int) - 224) = runeAt (Lib.decodeN N b0 b1 b2 b3) := by
  have hd : Lib.decodeN N b0 b1 b2 b3 = if (1 < N ∧ b1 / 64 = 2) ∧ (2 < N ∧ b2 / 64 = 2) then
    (if b0 % 16 * 4096 + b1 % 64 * 64 + b2 % 64 ≥ 2048 ∧ (b0 % 16 * 4096 + b1 % 64 * 64 + b2 % 64 < 55296 ∨ (57344 ≤ b0 % 16 * 4096 + b1 % 64 * 64 + b2 % 64 ∧ b0 % 16 * 4096 + b1 % 64 * 64 + b2 % 64 ≤ 1114111))
     then (b0 % 16 * 4096 + b1 % 64 * 64 + b2 % 64, 3) else (65533, 1)) else (65533, 1) := by
    unfold Lib.decodeN
    rw [if_neg (by omega), if_neg (by omega)]
    by_cases hc : (1 < N ∧ b1 / 64 = 2) ∧ (2 < N ∧ b2 / 64 = 2)
    · rw [if_pos ⟨by omega, hc.1, hc.2⟩, if_pos hc]
    · rw [if_neg (fun h => hc ⟨h.2.1, h.2.2⟩), if_neg hc, if_neg (by omega)]
  rw [hd]
  unfold specR
  by_cases hN : N < 3
  · rw [if_pos hN, if_neg (by omega)]; rfl
  rw [if_neg hN]
  cases hc : cont b1 with
  | false => rw [if_pos rfl, if_neg (fun h => cont_false h1 hc h.1.2)]; rfl
  | true =>
    obtain ⟨k1, k2, k3, k4⟩ := cont_true hc
    rw [if_neg (by simp), if_neg (by omega)]
    cases hc2 : cont b2 with
    | false => rw [if_pos rfl, if_neg (fun h => cont_false h2 hc2 h.2.2)]; rfl
    | true =>
      obtain ⟨l1, l2, l3, l4⟩ := cont_true hc2
      rw [if_neg (by simp), if_pos rfl, if_pos ⟨⟨by omega, k1⟩, by omega, l1⟩]
      by_cases hv : b0 % 16 * 4096 + b1 % 64 * 64 + b2 % 64 ≥ 2048 ∧ (b0 % 16 * 4096 + b1 % 64 * 64 + b2 % 64 < 55296 ∨ (57344 ≤ b0 % 16 * 4096 + b1 % 64 * 64 + b2 % 64 ∧ b0 % 16 * 4096 + b1 % 64 * 64 + b2 % 64 ≤ 1114111))
      · rw [if_pos hv]
        refine finR_eq 3 _ _ (by omega) (by omega) ?_
        unfold runeLen scalar
        rw [if_pos (by simp; omega), if_neg (by omega), if_neg (by omega), if_pos (by omega)]
      · rw [if_neg hv]
        refine finR_bad 3 _ ?_
        unfold runeLen scalar
        by_cases hsc : (decide (0 ≤ (((b0 : Int) - 224) * 64 + b1 - 128) * 64 + b2 - 128 ∧ (((b0 : Int) - 224) * 64 + b1 - 128) * 64 + b2 - 128 ≤ 1114111) && !decide (55296 ≤ (((b0 : Int) - 224) * 64 + b1 - 128) * 64 + b2 - 128 ∧ (((b0 : Int) - 224) * 64 + b1 - 128) * 64 + b2 - 128 ≤ 57343)) = true
        · rw [if_pos hsc]
          simp only [Bool.and_eq_true, decide_eq_true_eq, Bool.not_eq_true', decide_eq_false_iff_not] at hsc
          rcases Int.lt_or_le ((((b0 : Int) - 224) * 64 + b1 - 128) * 64 + b2 - 128) 2048 with hq | hq
          · split <;> omega
          · omega
        · rw [if_neg hsc]; omega
theorem pure4 (N b0 b1 b2 b3 : Nat) (h : 240 ≤ b0 ∧ b0 < 245) (h1 : b1 < 256) (h2 : b2 < 256) (h3 : b3 < 256) : specR N b1 b2 b3 4 ((b0 : Int) - 240) = runeAt (Lib.decodeN N b0 b1 b2 b3) := by
  have hd : Lib.decodeN N b0 b1 b2 b3 = if (1 < N ∧ b1 / 64 = 2) ∧ (2 < N ∧ b2 / 64 = 2) ∧ (3 < N ∧ b3 / 64 = 2) then
    (if b0 % 8 * 262144 + b1 % 64 * 4096 + b2 % 64 * 64 + b3 % 64 ≥ 65536 ∧ (b0 % 8 * 262144 + b1 % 64 * 4096 + b2 % 64 * 64 + b3 % 64 < 55296 ∨ (57344 ≤ b0 % 8 * 262144 + b1 % 64 * 4096 + b2 % 64 * 64 + b3 % 64 ∧ b0 % 8 * 262144 + b1 % 64 * 4096 + b2 % 64 * 64 + b3 % 64 ≤ 1114111))
     then (b0 % 8 * 262144 + b1 % 64 * 4096 + b2 % 64 * 64 + b3 % 64, 4) else (65533, 1)) else (65533, 1) := by
    unfold Lib.decodeN
    rw [if_neg (by omega), if_neg (by omega), if_neg (by omega)]
    by_cases hc : (1 < N ∧ b1 / 64 = 2) ∧ (2 < N ∧ b2 / 64 = 2) ∧ (3 < N ∧ b3 / 64 = 2)
    · rw [if_pos ⟨by omega, hc⟩, if_pos hc]
    · rw [if_neg (fun h => hc h.2), if_neg hc]
  rw [hd]
  unfold specR
  by_cases hN : N < 4
  · rw [if_pos hN, if_neg (by omega)]; rfl
  rw [if_neg hN]
  cases hc : cont b1 with
  | false => rw [if_pos rfl, if_neg (fun h => cont_false h1 hc h.1.2)]; rfl
  | true =>
    obtain ⟨k1, k2, k3, k4⟩ := cont_true hc
    rw [if_neg (by simp), if_neg (by omega)]
    cases hc2 : cont b2 with
    | false => rw [if_pos rfl, if_neg (fun h => cont_false h2 hc2 h.2.1.2)]; rfl
    | true =>
      obtain ⟨l1, l2, l3, l4⟩ := cont_true hc2
      rw [if_neg (by simp), if_neg (by omega)]
      cases hc3 : cont b3 with
      | false => rw [if_pos rfl, if_neg (fun h => cont_false h3 hc3 h.2.2.2)]; rfl
      | true =>
        obtain ⟨m1, m2, m3, m4⟩ := cont_true hc3
        rw [if_neg (by simp), if_pos ⟨⟨by omega, k1⟩, ⟨by omega, l1⟩, by omega, m1⟩]
        by_cases hv : b0 % 8 * 262144 + b1 % 64 * 4096 + b2 % 64 * 64 + b3 % 64 ≥ 65536 ∧ (b0 % 8 * 262144 + b1 % 64 * 4096 + b2 % 64 * 64 + b3 % 64 < 55296 ∨ (57344 ≤ b0 % 8 * 262144 + b1 % 64 * 4096 + b2 % 64 * 64 + b3 % 64 ∧ b0 % 8 * 262144 + b1 % 64 * 4096 + b2 % 64 * 64 + b3 % 64 ≤ 1114111))
        · rw [if_pos hv]
          refine finR_eq 4 _ _ (by omega) (by omega) ?_
          unfold runeLen scalar
          rw [if_pos (by simp; omega), if_neg (by omega), if_neg (by omega), if_neg (by omega)]
        · rw [if_neg hv]
          refine finR_bad 4 _ ?_
          generalize hn : ((((b0 : Int) - 240) * 64 + b1 - 128) * 64 + b2 - 128) * 64 + b3 - 128 = n
          unfold runeLen scalar
          split
          · rename_i hsc
            simp only [Bool.and_eq_true, decide_eq_true_eq, Bool.not_eq_true', decide_eq_false_iff_not] at hsc
            split
            · omega
            · split
              · omega
              · split <;> omega
          · omega
theorem pure0 (N b0 b1 b2 b3 : Nat) (h : 128 ≤ b0) (hA : ¬ (194 ≤ b0 ∧ b0 < 224)) (hB : ¬ (224 ≤ b0 ∧ b0 < 240)) (hC : ¬ (240 ≤ b0 ∧ b0 < 245)) : runeAt (Lib.decodeN N b0 b1 b2 b3) = [.i (-1), .i 0] := by
  have : Lib.decodeN N b0 b1 b2 b3 = (65533, 1) := by
    unfold Lib.decodeN
    rw [if_neg (by omega)]
    by_cases h1 : b0 / 32 = 6 ∧ (1 < N ∧ b1 / 64 = 2)
    · rw [if_pos h1, if_neg (by omega)]
    · rw [if_neg h1, if_neg (by omega)]
      by_cases h2 : b0 / 8 = 30 ∧ (1 < N ∧ b1 / 64 = 2) ∧ (2 < N ∧ b2 / 64 = 2) ∧ (3 < N ∧ b3 / 64 = 2)
      · rw [if_pos h2, if_neg (by omega)]
      · rw [if_neg h2]
  rw [this]; rfl

theorem spec_RuneAt (s : List UInt8) (i : Nat) (hs : s.length ≤ 1048576) (hi : i < s.length) : r_spec_RuneAt [.s s, .i (i : Int)] = .ret (runeAt (Lib.decodeL (s.drop i))) := by
  rw [eq_spec_RuneAt, Lib.decodeL_N, List.length_drop, Lib.getD_dropU, Lib.getD_dropU, Lib.getD_dropU, Lib.getD_dropU, Nat.add_zero]
  have e1 : decide ((i : Int) < 0) = false := decide_eq_false (by omega)
  have e2 : decide ((i : Int) ≥ (s.length : Int)) = false := decide_eq_false (by omega)
  have e3 : 0 ≤ (i : Int) ∧ (i : Int) < (s.length : Int) := by omega
  simp only [E_spec_RuneAt, List.getD_cons_zero, List.getD_cons_succ, DC.bb_b, DC.ii_i, DC.ss_s, e1, e2, e3, Bool.false_eq_true, if_false, if_true, and_self, Out.andThen_norm, Int.toNat_natCast]
  have hb0 := (s.getD i 0).toNat_lt
  have hb1 := (s.getD (i + 1) 0).toNat_lt
  have hb2 := (s.getD (i + 2) 0).toNat_lt
  have hb3 := (s.getD (i + 3) 0).toNat_lt
  have st := RuneAt_step s i
  generalize hB0 : (s.getD i 0).toNat = b0 at *
  have w0 : IntKind.i64.wrap (b0 : Int) = b0 := wrap64 (by omega) (by omega)
  rw [w0]
  by_cases c0 : b0 < 128
  · have d1 : decide ((b0 : Int) < 128) = true := decide_eq_true (by omega)
    simp only [d1, if_true]
    have : Lib.decodeN (s.length - i) b0 (s.getD (i + 1) 0).toNat (s.getD (i + 2) 0).toNat (s.getD (i + 3) 0).toNat = (b0, 1) := by unfold Lib.decodeN; rw [if_pos c0]
    rw [this]
    unfold runeAt
    rw [if_neg (by simp only; omega)]
    rfl
  have d0' : decide ((b0 : Int) < 128) = false := decide_eq_false (by omega)
  have fin : ∀ (m : Nat) (n : Int) (o : Out), o = .ex 1 [.i (m : Int), .i n] → Out.andThenB o 1 (fun v11 => (r_spec_RuneText [DC.i ((v11.getD 1 d0).ii)]).bindR fun r12 =>
          if ((((r12.getD 0 d0).ss).length : Int) != (v11.getD 0 d0).ii) = true then
            .ret [DC.i (-1 : Int), DC.i (0 : Int)]
          else
            .ret [DC.i ((v11.getD 1 d0).ii), DC.i ((v11.getD 0 d0).ii)]) = .ret (if runeLen n = m then [.i n, .i (m : Int)] else [.i (-1), .i 0]) := by
    intro m n o ho
    subst ho
    obtain ⟨t, ht, hl⟩ := spec_RuneText n
    show Out.bindR (r_spec_RuneText [DC.i n]) _ = _
    rw [ht, Out.bindR_ret]
    show (if (((t.length : Int) != (m : Int)) = true) then Out.ret [DC.i (-1), DC.i 0] else Out.ret [DC.i n, DC.i (m : Int)]) = _
    rw [hl]
    by_cases h : runeLen n = m
    · rw [if_pos h, h]; simp
    · rw [if_neg h, if_pos (by simp; omega)]
  have hBk : ∀ k, ((s.getD (i + k) 0).toNat) < 256 := fun k => (s.getD (i + k) 0).toNat_lt
  have body : ∀ (m : Nat) (n0 : Int), m = 2 ∨ m = 3 ∨ m = 4 → 0 ≤ n0 → n0 < 64 → (if decide (((i + m : Nat) : Int) > (s.length : Int)) = true then Out.ret [DC.i (-1 : Int), DC.i (0 : Int)] else
        Out.andThenB (Loop E_spec_RuneAtL1 [DC.s s, DC.i (i : Int), DC.i (m : Int), DC.i n0, DC.i (1 : Int)]) 1 (fun v11 => (r_spec_RuneText [DC.i ((v11.getD 1 d0).ii)]).bindR fun r12 =>
          if ((((r12.getD 0 d0).ss).length : Int) != (v11.getD 0 d0).ii) = true then
            .ret [DC.i (-1 : Int), DC.i (0 : Int)]
          else
            .ret [DC.i ((v11.getD 1 d0).ii), DC.i ((v11.getD 0 d0).ii)])) = .ret (specR (s.length - i) (s.getD (i + 1) 0).toNat (s.getD (i + 2) 0).toNat (s.getD (i + 3) 0).toNat m n0) := by
    intro m n0 hm h0 h1
    unfold specR
    by_cases hN : s.length - i < m
    · have e : decide (((i + m : Nat) : Int) > (s.length : Int)) = true := decide_eq_true (by omega)
      rw [if_pos e, if_pos hN]
    have e : decide (((i + m : Nat) : Int) > (s.length : Int)) = false := decide_eq_false (by omega)
    rw [if_neg hN]
    simp only [e, Bool.false_eq_true, if_false]
    have hc : ∀ k, cont (s.getD (i + k) 0).toNat = decide (128 ≤ (s.getD (i + k) 0).toNat ∧ (s.getD (i + k) 0).toNat ≤ 191) := fun k => by unfold cont; rw [Bool.decide_and]
    have stp : ∀ (j : Nat) (n : Int), j < m → 0 ≤ n → n < 16777216 → E_spec_RuneAtL1 [.s s, .i (i : Int), .i (m : Int), .i n, .i (j : Int)] = if cont (s.getD (i + j) 0).toNat = false then .ret [.i (-1), .i 0] else .norm [.s s, .i (i : Int), .i (m : Int), .i (n * 64 + (s.getD (i + j) 0).toNat - 128), .i ((j + 1 : Nat) : Int)] := by
      intro j n hj a b
      rw [RuneAt_step s i m j n hs hj (by omega) a b, hc]
      by_cases hq : 128 ≤ (s.getD (i + j) 0).toNat ∧ (s.getD (i + j) 0).toNat ≤ 191
      · rw [if_pos hq, decide_eq_true hq]; rfl
      · rw [if_neg hq, decide_eq_false hq]; rfl
    have rng : ∀ (j : Nat), cont (s.getD (i + j) 0).toNat = true → 128 ≤ (s.getD (i + j) 0).toNat ∧ (s.getD (i + j) 0).toNat ≤ 191 := fun j hj => ⟨(cont_true hj).2.2.1, (cont_true hj).2.2.2⟩
    have s1 := stp 1 n0 (by omega) h0 (by omega)
    cases c1 : cont (s.getD (i + 1) 0).toNat with
    | false =>
      rw [c1, if_pos rfl] at s1
      rw [if_pos rfl]
      have := Loop_ret s1
      rw [show ((1 : Nat) : Int) = 1 from rfl] at this
      rw [this]; rfl
    | true =>
      have r1 := rng 1 c1
      rw [c1, if_neg (by simp)] at s1
      rw [if_neg (by simp)]
      have l1 := Loop_norm s1
      rw [show ((1 : Nat) : Int) = 1 from rfl] at l1
      rw [l1]
      by_cases m2 : m = 2
      · subst m2
        rw [if_pos rfl]
        exact fin 2 _ _ (Loop_ex (RuneAt_end s i 2 _))
      rw [if_neg m2]
      have s2 := stp 2 (n0 * 64 + (s.getD (i + 1) 0).toNat - 128) (by omega) (by omega) (by omega)
      cases c2 : cont (s.getD (i + 2) 0).toNat with
      | false =>
        rw [c2, if_pos rfl] at s2
        rw [if_pos rfl]
        show Out.andThenB (Loop _ [_, _, _, _, .i ((2 : Nat) : Int)]) _ _ = _
        rw [Loop_ret s2]; rfl
      | true =>
        have r2 := rng 2 c2
        rw [c2, if_neg (by simp)] at s2
        rw [if_neg (by simp)]
        show Out.andThenB (Loop _ [_, _, _, _, .i ((2 : Nat) : Int)]) _ _ = _
        rw [Loop_norm s2]
        by_cases m3 : m = 3
        · subst m3
          rw [if_pos rfl]
          exact fin 3 _ _ (Loop_ex (RuneAt_end s i 3 _))
        rw [if_neg m3]
        have m4 : m = 4 := by omega
        subst m4
        have s3 := stp 3 ((n0 * 64 + (s.getD (i + 1) 0).toNat - 128) * 64 + (s.getD (i + 2) 0).toNat - 128) (by omega) (by omega) (by omega)
        cases c3 : cont (s.getD (i + 3) 0).toNat with
        | false =>
          rw [c3, if_pos rfl] at s3
          rw [if_pos rfl]
          show Out.andThenB (Loop _ [_, _, _, _, .i ((3 : Nat) : Int)]) _ _ = _
          rw [Loop_ret s3]; rfl
        | true =>
          rw [c3, if_neg (by simp)] at s3
          rw [if_neg (by simp)]
          show Out.andThenB (Loop _ [_, _, _, _, .i ((3 : Nat) : Int)]) _ _ = _
          rw [Loop_norm s3]
          exact fin 4 _ _ (Loop_ex (RuneAt_end s i 4 _))
  simp only [d0', Bool.false_eq_true, if_false]
  by_cases cA : 194 ≤ b0 ∧ b0 < 224
  · have d1 : decide ((b0 : Int) ≥ 194) = true := decide_eq_true (by omega)
    have d2 : decide ((b0 : Int) < 224) = true := decide_eq_true (by omega)
    have w1 : IntKind.i64.wrap ((b0 : Int) - 192) = b0 - 192 := wrap64 (by omega) (by omega)
    have w2 : IntKind.i64.wrap ((i : Int) + 2) = ((i + 2 : Nat) : Int) := by rw [wrap64 (by omega) (by omega)]; omega
    simp only [d1, d2, if_true, Out.andThen_norm, Out.andThenB_norm, List.getD_cons_zero, List.getD_cons_succ, DC.bb_b, DC.ii_i, DC.ss_s, w1, w2]
    exact (body 2 ((b0 : Int) - 192) (by omega) (by omega) (by omega)).trans (congrArg Out.ret (pure2 _ _ _ _ _ cA (hBk 1)))
  by_cases cB : 224 ≤ b0 ∧ b0 < 240
  · have d1 : decide ((b0 : Int) ≥ 194) = true := decide_eq_true (by omega)
    have d2 : decide ((b0 : Int) < 224) = false := decide_eq_false (by omega)
    have d3 : decide ((b0 : Int) ≥ 224) = true := decide_eq_true (by omega)
    have d4 : decide ((b0 : Int) < 240) = true := decide_eq_true (by omega)
    have w1 : IntKind.i64.wrap ((b0 : Int) - 224) = b0 - 224 := wrap64 (by omega) (by omega)
    have w2 : IntKind.i64.wrap ((i : Int) + 3) = ((i + 3 : Nat) : Int) := by rw [wrap64 (by omega) (by omega)]; omega
    simp only [d1, d2, d3, d4, if_true, Bool.false_eq_true, if_false, Out.andThen_norm, Out.andThenB_norm, List.getD_cons_zero, List.getD_cons_succ, DC.bb_b, DC.ii_i, DC.ss_s, w1, w2]
    exact (body 3 ((b0 : Int) - 224) (by omega) (by omega) (by omega)).trans (congrArg Out.ret (pure3 _ _ _ _ _ cB (hBk 1) (hBk 2)))
  by_cases cC : 240 ≤ b0 ∧ b0 < 245
  · have d1 : decide ((b0 : Int) ≥ 194) = true := decide_eq_true (by omega)
    have d2 : decide ((b0 : Int) < 224) = false := decide_eq_false (by omega)
    have d3 : decide ((b0 : Int) ≥ 224) = true := decide_eq_true (by omega)
    have d4 : decide ((b0 : Int) < 240) = false := decide_eq_false (by omega)
    have d5 : decide ((b0 : Int) ≥ 240) = true := decide_eq_true (by omega)
    have d6 : decide ((b0 : Int) < 245) = true := decide_eq_true (by omega)
    have w1 : IntKind.i64.wrap ((b0 : Int) - 240) = b0 - 240 := wrap64 (by omega) (by omega)
    have w2 : IntKind.i64.wrap ((i : Int) + 4) = ((i + 4 : Nat) : Int) := by rw [wrap64 (by omega) (by omega)]; omega
    simp only [d1, d2, d3, d4, d5, d6, if_true, Bool.false_eq_true, if_false, Out.andThen_norm, Out.andThenB_norm, List.getD_cons_zero, List.getD_cons_succ, DC.bb_b, DC.ii_i, DC.ss_s, w1, w2]
    exact (body 4 ((b0 : Int) - 240) (by omega) (by omega) (by omega)).trans (congrArg Out.ret (pure4 _ _ _ _ _ cC (hBk 1) (hBk 2) (hBk 3)))
  rw [pure0 _ _ _ _ _ (by omega) cA cB cC]
  rcases Nat.lt_or_ge b0 194 with q | q
  · have d1 : decide ((b0 : Int) ≥ 194) = false := decide_eq_false (by omega)
    have d3 : decide ((b0 : Int) ≥ 224) = false := decide_eq_false (by omega)
    have d5 : decide ((b0 : Int) ≥ 240) = false := decide_eq_false (by omega)
    simp only [d1, d3, d5, if_true, Bool.false_eq_true, if_false, Out.andThen_norm, Out.andThenB_norm, List.getD_cons_zero, List.getD_cons_succ, DC.bb_b, DC.ii_i, DC.ss_s]
    rfl
  · have d1 : decide ((b0 : Int) ≥ 194) = true := decide_eq_true (by omega)
    have d2 : decide ((b0 : Int) < 224) = false := decide_eq_false (by omega)
    have d3 : decide ((b0 : Int) ≥ 224) = true := decide_eq_true (by omega)
    have d4 : decide ((b0 : Int) < 240) = false := decide_eq_false (by omega)
    have d5 : decide ((b0 : Int) ≥ 240) = true := decide_eq_true (by omega)
    have d6 : decide ((b0 : Int) < 245) = false := decide_eq_false (by omega)
    simp only [d1, d2, d3, d4, d5, d6, if_true, Bool.false_eq_true, if_false, Out.andThen_norm, Out.andThenB_norm, List.getD_cons_zero, List.getD_cons_succ, DC.bb_b, DC.ii_i, DC.ss_s]
    rfl

theorem spec_TextOk (s : List UInt8) (hs : s.length ≤ 1048576) : r_spec_TextOk [.s s] = .ret [.b (Lib.validD s)] := by
  rw [eq_spec_TextOk]
  simp only [E_spec_TextOk, List.getD_cons_zero, List.getD_cons_succ, DC.bb_b, DC.ii_i, DC.ss_s]
  have key : ∀ (k i : Nat), s.length - i ≤ k → i ≤ s.length → Loop E_spec_TextOkL1 [.s s, .i (i : Int)] = if Lib.validD (s.drop i) = true then .ex 0 [] else .ret [.b false] := by
    intro k
    induction k with
    | zero =>
      intro i hk hi
      have : i = s.length := by omega
      subst this
      have e : decide ((s.length : Int) < (s.length : Int)) = false := decide_eq_false (by omega)
      rw [Loop_ex (r := []) (id := 0) (by simp only [E_spec_TextOkL1, List.getD_cons_zero, List.getD_cons_succ, DC.ii_i, DC.ss_s, e, Bool.false_eq_true, if_false]), List.drop_length]
      rfl
    | succ k ih =>
      intro i hk hi
      rcases Nat.lt_or_ge i s.length with hl | hl
      · have hne : s.drop i ≠ [] := fun h => by have := List.drop_eq_nil_iff.1 h; omega
        rw [Lib.validD_step _ hne]
        have hw := Lib.decodeL_width (s.drop i)
        have hdl : (s.drop i).length = s.length - i := List.length_drop
        have hpos : 0 < (s.drop i).length := List.length_pos_iff.2 hne
        have e : decide ((i : Int) < (s.length : Int)) = true := decide_eq_true (by omega)
        have hle : (Lib.decodeL (s.drop i)).2 ≤ s.length - i := by
          rw [← hdl]
          have := decodeN_wide (s.drop i).length ((s.drop i).getD 0 0).toNat ((s.drop i).getD 1 0).toNat ((s.drop i).getD 2 0).toNat ((s.drop i).getD 3 0).toNat hpos
          rw [← Lib.decodeL_N] at this
          exact this.2.1
        have hge : 1 ≤ (Lib.decodeL (s.drop i)).2 := by
          have := decodeN_wide (s.drop i).length ((s.drop i).getD 0 0).toNat ((s.drop i).getD 1 0).toNat ((s.drop i).getD 2 0).toNat ((s.drop i).getD 3 0).toNat hpos
          rw [← Lib.decodeL_N] at this
          exact this.1
        have hra := spec_RuneAt s i hs hl
        unfold runeAt at hra
        by_cases hb : (Lib.decodeL (s.drop i)).1 = 65533 ∧ (Lib.decodeL (s.drop i)).2 = 1
        · rw [if_pos hb] at hra ⊢
          rw [Loop_ret (r := [.b false]) (by simp only [E_spec_TextOkL1, List.getD_cons_zero, List.getD_cons_succ, DC.ii_i, DC.ss_s, e, if_true, hra, Out.bindR_ret]; rfl)]
          rfl
        · rw [if_neg hb] at hra ⊢
          have e2 : decide (((Lib.decodeL (s.drop i)).1 : Int) < 0) = false := decide_eq_false (by omega)
          have w : IntKind.i64.wrap ((i : Int) + ((Lib.decodeL (s.drop i)).2 : Int)) = ((i + (Lib.decodeL (s.drop i)).2 : Nat) : Int) := by rw [wrap64 (by omega) (by omega)]; omega
          rw [Loop_norm (v' := [.s s, .i ((i + (Lib.decodeL (s.drop i)).2 : Nat) : Int)]) (by simp only [E_spec_TextOkL1, List.getD_cons_zero, List.getD_cons_succ, DC.ii_i, DC.ss_s, e, if_true, hra, Out.bindR_ret, e2, Bool.false_eq_true, if_false, w, Out.andThenB_norm]),
            ih _ (by omega) (by omega), List.drop_drop]
      · have : i = s.length := by omega
        subst this
        have e : decide ((s.length : Int) < (s.length : Int)) = false := decide_eq_false (by omega)
        rw [Loop_ex (r := []) (id := 0) (by simp only [E_spec_TextOkL1, List.getD_cons_zero, List.getD_cons_succ, DC.ii_i, DC.ss_s, e, Bool.false_eq_true, if_false]), List.drop_length]
        rfl
  have h := key s.length 0 (by omega) (by omega)
  rw [show ((0 : Nat) : Int) = 0 from rfl, List.drop_zero] at h
  rw [h]
  cases Lib.validD s <;> simp

theorem impl_TextOk (s : List UInt8) (hs : s.length ≤ 1048576) : r_impl_TextOk [.s s] = .ret [.b (Lib.validD s)] := by
  rw [eq_impl_TextOk]
  simp only [E_impl_TextOk, List.getD_cons_zero, List.getD_cons_succ, DC.bb_b, DC.ii_i, DC.ss_s]
  rw [eq_unicode_utf8_ValidString]
  have : E_unicode_utf8_ValidString [.s s] = .ret [.b (Lib.validD s)] := by
    unfold E_unicode_utf8_ValidString primH
    have hh : hintLit [.s] h_unicode_utf8_ValidString = true := rfl
    have hq : qValidString [.s s] = some [.b (Lib.validD s)] := by
      unfold qValidString
      simp only
      rw [if_pos (by omega)]
    rw [hh, hq]
    rfl
  rw [this]
  rfl
end Go.Proofs.YtljggmbgbnmapaaDoorV

/- Texts as they are written: what both implementations answer. -/
namespace Go.Proofs.YtljggmbgbnmapaaDoorV
open Go
set_option linter.unusedVariables false
set_option linter.unusedSimpArgs false
set_option maxRecDepth 100000

def hexL : List UInt8 := [48, 49, 50, 51, 52, 53, 54, 55, 56, 57, 97, 98, 99, 100, 101, 102]
def hx (n : Nat) : UInt8 := hexL.getD n 0
def esc (b : UInt8) : List UInt8 :=
  if (b == 34) = true then [92, 34] else if (b == 92) = true then [92, 92] else if (b == 8) = true then [92, 98] else if (b == 9) = true then [92, 116] else if (b == 10) = true then [92, 110] else
  if (b == 12) = true then [92, 102] else if (b == 13) = true then [92, 114] else if b.toNat < 32 ∨ (b == 127) = true then [92, 117, 48, 48, hx (b.toNat / 16), hx (b.toNat % 16)] else [b]
theorem esc_len (b : UInt8) : (esc b).length ≤ 6 := by
  unfold esc
  repeat' split
  all_goals simp
def escs (s : List UInt8) : List UInt8 := s.flatMap esc
theorem escs_len : ∀ s : List UInt8, (escs s).length ≤ 6 * s.length
  | [] => Nat.le_refl _
  | b :: s => by
    have := escs_len s
    have hb := esc_len b
    unfold escs at *
    rw [List.flatMap_cons, List.length_append, List.length_cons]
    omega
def escaped (s : List UInt8) : List UInt8 := if Lib.validD s = true ∧ s.length ≤ 200 then 34 :: (escs s ++ [34]) else []

theorem shr4 : ∀ n : Fin 256, ((n.1 : Int).fdiv (2 ^ (min (4 : Int).toNat (IntKind.u8.bits)))) = ((n.1 / 16 : Nat) : Int) := by decide +kernel
theorem and15 : ∀ n : Fin 256, (IntKind.u8.wrap (BitVec.ofInt (IntKind.u8.bits) (n.1 : Int) &&& BitVec.ofInt (IntKind.u8.bits) (15 : Int)).toNat) = ((n.1 % 16 : Nat) : Int) := by decide +kernel

theorem spec_l04Hex4 (n : Nat) (hn : n < 256) : r_spec_l04Hex4 [.i (n : Int)] = .ret [.s [48, 48, hx (n / 16), hx (n % 16)]] := by
  rw [eq_spec_l04Hex4]
  have w : ∀ k : Nat, IntKind.i64.wrap ((n : Int).tdiv (k : Int)) = ((n / k : Nat) : Int) := fun k => by
    have e : ((n : Int).tdiv (k : Int)) = ((n / k : Nat) : Int) := rfl
    rw [e]
    have := Nat.div_le_self n k
    generalize n / k = q at *
    exact wrap64 (by omega) (by omega)
  have w1 : IntKind.i64.wrap ((n : Int).tdiv 4096) = ((n / 4096 : Nat) : Int) := w 4096
  have w2 : IntKind.i64.wrap ((n : Int).tdiv 256) = ((n / 256 : Nat) : Int) := w 256
  have w3 : IntKind.i64.wrap ((n : Int).tdiv 16) = ((n / 16 : Nat) : Int) := w 16
  have t : ∀ k : Nat, ((k : Int).tmod 16) = ((k % 16 : Nat) : Int) := fun k => rfl
  have b : ∀ k : Nat, (0 ≤ ((k % 16 : Nat) : Int) ∧ ((k % 16 : Nat) : Int) < (([48, 49, 50, 51, 52, 53, 54, 55, 56, 57, 97, 98, 99, 100, 101, 102] : List UInt8).length : Int)) = True := fun k => by
    simp only [List.length_cons, List.length_nil, eq_iff_iff, iff_true]
    omega
  have h0 : n / 4096 % 16 = 0 := by omega
  have h1 : n / 256 % 16 = 0 := by omega
  have h2 : n / 16 % 16 = n / 16 := by omega
  simp only [E_spec_l04Hex4, List.getD_cons_zero, DC.ii_i, w1, w2, w3, t, b, if_true, show ¬ (4096 : Int) = 0 by decide, show ¬ (256 : Int) = 0 by decide, show ¬ (16 : Int) = 0 by decide, if_false, Int.toNat_natCast, h0, h1, h2]
  have b0 : (0 ≤ ((0 : Nat) : Int) ∧ ((0 : Nat) : Int) < (([48, 49, 50, 51, 52, 53, 54, 55, 56, 57, 97, 98, 99, 100, 101, 102] : List UInt8).length : Int)) = True := b 0
  have b1 : (0 ≤ ((n / 16 : Nat) : Int) ∧ ((n / 16 : Nat) : Int) < (([48, 49, 50, 51, 52, 53, 54, 55, 56, 57, 97, 98, 99, 100, 101, 102] : List UInt8).length : Int)) = True := by
    have := b (n / 16)
    rw [h2] at this
    exact this
  simp only [b0, b1, if_true]
  have hh : ∀ k : Nat, UInt8.ofNat (((hexL.getD k 0).toNat : Int)).toNat = hx k := fun k => by
    rw [Int.toNat_natCast]
    exact UInt8.ofNat_toNat
  show Out.ret [DC.s [UInt8.ofNat _, UInt8.ofNat _, UInt8.ofNat _, UInt8.ofNat _]] = _
  have e := hh (n / 16)
  have e' := hh (n % 16)
  unfold hexL at e e'
  simp only [List.getD_cons_zero, DC.ii_i, e, e']
  rfl

theorem take_drop_one (s : List UInt8) (i : Nat) (hi : i < s.length) : (s.take (i + 1)).drop i = [s.getD i 0] := by
  rw [List.drop_take, show i + 1 - i = 1 by omega, List.drop_eq_getElem_cons hi, List.take_succ_cons, List.take_zero, List.getD_eq_getElem?_getD, List.getElem?_eq_getElem hi]
  rfl

theorem spec_Escaped_step (s out : List UInt8) (i : Nat) (hs : s.length ≤ 200) (hi : i < s.length) (ho : out.length ≤ 2000) :
    E_spec_EscapedL1 [.s s, .s out, .i (i : Int)] = .norm [.s s, .s (out ++ esc (s.getD i 0)), .i ((i + 1 : Nat) : Int)] := by
  have e1 : decide ((i : Int) < (s.length : Int)) = true := decide_eq_true (by omega)
  have e2 : 0 ≤ (i : Int) ∧ (i : Int) < (s.length : Int) := by omega
  have w := wrap_succ hi (show s.length ≤ 9223372036854775807 by omega)
  have e3 : 0 ≤ (i : Int) ∧ (i : Int) ≤ ((i + 1 : Nat) : Int) ∧ ((i + 1 : Nat) : Int) ≤ (s.length : Int) := by omega
  have L : ∀ k, k ≤ 2010 → k < LIM := fun k hk => Nat.lt_of_le_of_lt hk (by decide)
  have td := take_drop_one s i hi
  have hb := (s.getD i 0).toNat_lt
  simp only [E_spec_EscapedL1, List.getD_cons_zero, List.getD_cons_succ, DC.bb_b, DC.ii_i, DC.ss_s, e1, e2, if_true, and_self, decide_true, Int.toNat_natCast, w, e3, td]
  generalize s.getD i 0 = b at *
  have u34 : ((b.toNat : Int) == 34) = (b == 34) := u8_eq b 34 (by omega)
  have u92 : ((b.toNat : Int) == 92) = (b == 92) := u8_eq b 92 (by omega)
  have u8' : ((b.toNat : Int) == 8) = (b == 8) := u8_eq b 8 (by omega)
  have u9 : ((b.toNat : Int) == 9) = (b == 9) := u8_eq b 9 (by omega)
  have u10 : ((b.toNat : Int) == 10) = (b == 10) := u8_eq b 10 (by omega)
  have u12 : ((b.toNat : Int) == 12) = (b == 12) := u8_eq b 12 (by omega)
  have u13 : ((b.toNat : Int) == 13) = (b == 13) := u8_eq b 13 (by omega)
  have u127 : ((b.toNat : Int) == 127) = (b == 127) := u8_eq b 127 (by omega)
  have wb : IntKind.i64.wrap (b.toNat : Int) = (b.toNat : Int) := wrap64 (by omega) (by omega)
  have u32 : decide ((b.toNat : Int) < 32) = decide (b.toNat < 32) := by rw [Bool.eq_iff_iff, decide_eq_true_eq, decide_eq_true_eq]; omega
  have l1 : ∀ x y : UInt8, out.length + [x, y].length < LIM := fun x y => L _ (by simp; omega)
  have l2 : ∀ x : UInt8, out.length + [x].length < LIM := fun x => L _ (by simp; omega)
  have l3 : ∀ x y : UInt8, (out ++ [x]).length + [y].length < LIM := fun x y => L _ (by simp; omega)
  have l4 : ∀ x y a b c d : UInt8, (out ++ [x, y]).length + [a, b, c, d].length < LIM := fun x y a b c d => L _ (by simp; omega)
  simp only [u34, u92, u8', u9, u10, u12, u13, u127, u32, wb]
  unfold esc
  cases h34 : b == 34 with
  | true =>
    rw [beq_iff_eq] at h34
    subst h34
    simp only [if_true, Out.andThen_norm, Out.andThenB_norm, List.getD_cons_zero, List.getD_cons_succ, DC.bb_b, DC.ii_i, DC.ss_s, l2, l3, e3, and_self, w, td, Int.toNat_natCast, List.append_assoc, List.singleton_append, beq_self_eq_true]
  | false =>
  cases h92 : b == 92 with
  | true =>
    rw [beq_iff_eq] at h92
    subst h92
    simp only [show ((92 : UInt8) == 34) = false from rfl, if_true, Bool.false_eq_true, if_false, Out.andThen_norm, Out.andThenB_norm, List.getD_cons_zero, List.getD_cons_succ, DC.bb_b, DC.ii_i, DC.ss_s, l1, l2, l3, l4, e3, and_self, w, td, Int.toNat_natCast, List.append_assoc, List.singleton_append, List.cons_append, List.nil_append, beq_self_eq_true, u34, u92, u8', u9, u10, u12, u13, u127, u32, wb]
  | false =>
  cases h8 : b == 8 with
  | true =>
    simp only [decide_true, decide_false, h34, h92, h8, if_true, Bool.false_eq_true, if_false, Out.andThen_norm, Out.andThenB_norm, List.getD_cons_zero, List.getD_cons_succ, DC.bb_b, DC.ii_i, DC.ss_s, l1, l2, l3, l4, e3, and_self, w, td, Int.toNat_natCast, List.append_assoc, List.singleton_append, List.cons_append, List.nil_append, beq_self_eq_true, u34, u92, u8', u9, u10, u12, u13, u127, u32, wb]
  | false =>
  cases h9 : b == 9 with
  | true =>
    simp only [decide_true, decide_false, h34, h92, h8, h9, if_true, Bool.false_eq_true, if_false, Out.andThen_norm, Out.andThenB_norm, List.getD_cons_zero, List.getD_cons_succ, DC.bb_b, DC.ii_i, DC.ss_s, l1, l2, l3, l4, e3, and_self, w, td, Int.toNat_natCast, List.append_assoc, List.singleton_append, List.cons_append, List.nil_append, beq_self_eq_true, u34, u92, u8', u9, u10, u12, u13, u127, u32, wb]
  | false =>
  cases h10 : b == 10 with
  | true =>
    simp only [decide_true, decide_false, h34, h92, h8, h9, h10, if_true, Bool.false_eq_true, if_false, Out.andThen_norm, Out.andThenB_norm, List.getD_cons_zero, List.getD_cons_succ, DC.bb_b, DC.ii_i, DC.ss_s, l1, l2, l3, l4, e3, and_self, w, td, Int.toNat_natCast, List.append_assoc, List.singleton_append, List.cons_append, List.nil_append, beq_self_eq_true, u34, u92, u8', u9, u10, u12, u13, u127, u32, wb]
  | false =>
  cases h12 : b == 12 with
  | true =>
    simp only [decide_true, decide_false, h34, h92, h8, h9, h10, h12, if_true, Bool.false_eq_true, if_false, Out.andThen_norm, Out.andThenB_norm, List.getD_cons_zero, List.getD_cons_succ, DC.bb_b, DC.ii_i, DC.ss_s, l1, l2, l3, l4, e3, and_self, w, td, Int.toNat_natCast, List.append_assoc, List.singleton_append, List.cons_append, List.nil_append, beq_self_eq_true, u34, u92, u8', u9, u10, u12, u13, u127, u32, wb]
  | false =>
  cases h13 : b == 13 with
  | true =>
    simp only [decide_true, decide_false, h34, h92, h8, h9, h10, h12, h13, if_true, Bool.false_eq_true, if_false, Out.andThen_norm, Out.andThenB_norm, List.getD_cons_zero, List.getD_cons_succ, DC.bb_b, DC.ii_i, DC.ss_s, l1, l2, l3, l4, e3, and_self, w, td, Int.toNat_natCast, List.append_assoc, List.singleton_append, List.cons_append, List.nil_append, beq_self_eq_true, u34, u92, u8', u9, u10, u12, u13, u127, u32, wb]
  | false =>
  by_cases h32 : b.toNat < 32
  · have d : decide (b.toNat < 32) = true := decide_eq_true h32
    simp only [decide_true, decide_false, h34, h92, h8, h9, h10, h12, h13, d, h32, true_or, spec_l04Hex4 _ hb, Out.bindR_ret, if_true, Bool.false_eq_true, if_false, Out.andThen_norm, Out.andThenB_norm, List.getD_cons_zero, List.getD_cons_succ, DC.bb_b, DC.ii_i, DC.ss_s, l1, l2, l3, l4, e3, and_self, w, td, Int.toNat_natCast, List.append_assoc, List.singleton_append, List.cons_append, List.nil_append, beq_self_eq_true, u34, u92, u8', u9, u10, u12, u13, u127, u32, wb]
  · have d : decide (b.toNat < 32) = false := decide_eq_false h32
    cases h127 : b == 127 with
    | true =>
      simp only [decide_true, decide_false, h34, h92, h8, h9, h10, h12, h13, d, h32, h127, or_true, spec_l04Hex4 _ hb, Out.bindR_ret, if_true, Bool.false_eq_true, if_false, Out.andThen_norm, Out.andThenB_norm, List.getD_cons_zero, List.getD_cons_succ, DC.bb_b, DC.ii_i, DC.ss_s, l1, l2, l3, l4, e3, and_self, w, td, Int.toNat_natCast, List.append_assoc, List.singleton_append, List.cons_append, List.nil_append, beq_self_eq_true, u34, u92, u8', u9, u10, u12, u13, u127, u32, wb]
    | false =>
      simp only [decide_true, decide_false, h34, h92, h8, h9, h10, h12, h13, d, h32, h127, or_self, if_true, Bool.false_eq_true, if_false, Out.andThen_norm, Out.andThenB_norm, List.getD_cons_zero, List.getD_cons_succ, DC.bb_b, DC.ii_i, DC.ss_s, l1, l2, l3, l4, e3, and_self, w, td, Int.toNat_natCast, List.append_assoc, List.singleton_append, List.cons_append, List.nil_append, beq_self_eq_true, u34, u92, u8', u9, u10, u12, u13, u127, u32, wb]

theorem spec_Escaped (s : List UInt8) (hs : s.length ≤ 1048576) : r_spec_Escaped [.s s] = .ret [.s (escaped s)] := by
  rw [eq_spec_Escaped]
  simp only [E_spec_Escaped, List.getD_cons_zero, List.getD_cons_succ, DC.bb_b, DC.ii_i, DC.ss_s, spec_TextOk s hs, Out.bindR_ret]
  cases hv : Lib.validD s with
  | false =>
    have he : escaped s = [] := by unfold escaped; rw [if_neg (by rw [hv]; simp)]
    rw [he]
    simp
  | true =>
    rcases Nat.lt_or_ge 200 s.length with h | h
    · have e : decide ((s.length : Int) > 200) = true := decide_eq_true (by omega)
      have he : escaped s = [] := by unfold escaped; rw [if_neg (by omega)]
      rw [he]
      simp only [e, Bool.not_true, Bool.false_eq_true, if_false, if_true, Out.andThen_norm, List.getD_cons_zero, List.getD_cons_succ, DC.bb_b]
    · have e : decide ((s.length : Int) > 200) = false := decide_eq_false (by omega)
      have he : escaped s = 34 :: (escs s ++ [34]) := by unfold escaped; rw [if_pos ⟨hv, h⟩]
      rw [he]
      simp only [e, Bool.not_true, Bool.false_eq_true, if_false, if_true, Out.andThen_norm, List.getD_cons_zero, List.getD_cons_succ, DC.bb_b, DC.ss_s]
      have key := Loop_upto (F := E_spec_EscapedL1) (st := fun i => [.s s, .s (34 :: escs (s.take i)), .i (i : Int)]) (o := .ex 0 [.s (34 :: escs s)]) s.length 0 (fun j _ hj => ?step) ?fin
      · have k2 : Loop E_spec_EscapedL1 [.s s, .s [34], .i 0] = .ex 0 [.s (34 :: escs s)] := key
        have hl := escs_len s
        have L : (34 :: escs s).length + [(34 : UInt8)].length < LIM := Nat.lt_of_le_of_lt (show _ ≤ 2010 by simp; omega) (by decide)
        rw [k2]
        simp only [Out.andThenB_ex, if_true, List.getD_cons_zero, DC.ss_s, L, List.cons_append]
      case step =>
        have hj' : j < s.length := by omega
        have hl := escs_len (s.take j)
        rw [List.length_take] at hl
        rw [spec_Escaped_step s _ j h hj' (by simp; omega)]
        congr 4
        rw [List.take_succ_eq_append_getElem hj', escs, escs, List.flatMap_append, List.flatMap_singleton, List.getD_eq_getElem?_getD, List.getElem?_eq_getElem hj']
        rfl
      case fin =>
        have e : decide ((s.length : Int) < (s.length : Int)) = false := decide_eq_false (by omega)
        rw [Nat.zero_add]
        refine Loop_ex ?_
        simp only [E_spec_EscapedL1, List.getD_cons_zero, List.getD_cons_succ, DC.ii_i, DC.ss_s, e, Bool.false_eq_true, if_false, List.take_length]

/-- Bytes as rows of one number. -/
def brows (l : List UInt8) : List (List DC) := l.map fun x => [.i (x.toNat : Int)]
theorem brows_app (l m : List UInt8) : brows (l ++ m) = brows l ++ brows m := List.map_append
theorem brows_len (l : List UInt8) : (brows l).length = l.length := List.length_map _
theorem rowBytes_rows : ∀ l : List UInt8, rowBytes (brows l) = l
  | [] => rfl
  | x :: l => by
    have := rowBytes_rows l
    unfold rowBytes brows at *
    rw [List.map_cons, List.map_cons, this]
    congr 1
    show UInt8.ofNat ((x.toNat : Int)).toNat = x
    rw [Int.toNat_natCast]
    exact UInt8.ofNat_toNat

theorem strings_IndexByte (l : List UInt8) (b : UInt8) : r_strings_IndexByte [.s l, .i (b.toNat : Int)] = .ret [.i (Lib.indexByte l b)] := by
  rw [eq_strings_IndexByte]
  simp only [E_strings_IndexByte, List.getD_cons_zero, List.getD_cons_succ, DC.bb_b, DC.ii_i, DC.ss_s]
  rw [eq_internal_stringslite_IndexByte]
  have : E_internal_stringslite_IndexByte [.s l, .i (b.toNat : Int)] = .ret [.i (Lib.indexByte l ((b.toNat : Int)).toNat.toUInt8)] := by
    unfold E_internal_stringslite_IndexByte primH
    have hh : hintLit [.s, .i .u8] h_internal_stringslite_IndexByte = true := rfl
    have hq : qIndexByte [.s l, .i (b.toNat : Int)] = some [.i (Lib.indexByte l ((b.toNat : Int)).toNat.toUInt8)] := rfl
    rw [hh, hq]
    rfl
  have hb : ((b.toNat : Int)).toNat.toUInt8 = b := by simp
  rw [this, hb]
  rfl

theorem impl_Escaped_step (s out : List UInt8) (i : Nat) (hs : s.length ≤ 200) (hi : i < s.length) (ho : out.length ≤ 2000) :
    E_impl_EscapedL1 [.s s, .sl (brows out), .i (s.length : Int), .i (i : Int)] = .norm [.s s, .sl (brows (out ++ esc (s.getD i 0))), .i (s.length : Int), .i ((i + 1 : Nat) : Int)] := by
  have e1 : decide ((i : Int) < (s.length : Int)) = true := decide_eq_true (by omega)
  have e2 : 0 ≤ (i : Int) ∧ (i : Int) < (s.length : Int) := by omega
  have w := wrap_succ hi (show s.length ≤ 9223372036854775807 by omega)
  have L : ∀ k, k ≤ 2010 → k < LIM := fun k hk => Nat.lt_of_le_of_lt hk (by decide)
  have hb := (s.getD i 0).toNat_lt
  rw [brows_app]
  simp only [E_impl_EscapedL1, List.getD_cons_zero, List.getD_cons_succ, DC.bb_b, DC.ii_i, DC.ss_s, DC.ll_sl, e1, e2, if_true, and_self, decide_true, Int.toNat_natCast, w, strings_IndexByte, Out.bindR_ret]
  generalize s.getD i 0 = b at *
  have u127 : ((b.toNat : Int) == 127) = (b == 127) := u8_eq b 127 (by omega)
  have u32 : decide ((b.toNat : Int) < 32) = decide (b.toNat < 32) := by rw [Bool.eq_iff_iff, decide_eq_true_eq, decide_eq_true_eq]; omega
  have l1 : ∀ x : List DC, (brows out).length + [x].length < LIM := fun x => L _ (by rw [brows_len]; simp; omega)
  have l2 : ∀ x y : List DC, (brows out).length + [x, y].length < LIM := fun x y => L _ (by rw [brows_len]; simp; omega)
  have l6 : ∀ x y z u v q : List DC, (brows out).length + [x, y, z, u, v, q].length < LIM := fun x y z u v q => L _ (by rw [brows_len]; simp; omega)
  unfold esc
  cases h34 : b == 34 with
  | true =>
    rw [beq_iff_eq] at h34
    subst h34
    have g0 : Lib.indexByte [34, 92, 8, 9, 10, 12, 13] 34 = 0 := by decide
    have g1 : decide ((0 : Int) ≥ 0) = true := rfl
    have g2 : (0 ≤ (0 : Int) ∧ (0 : Int) < (([34, 92, 98, 116, 110, 102, 114] : List UInt8).length : Int)) = True := by simp
    have g3 : ([34, 92, 98, 116, 110, 102, 114] : List UInt8).getD (0 : Int).toNat 0 = 34 := rfl
    simp only [g0, g1, g2, g3, if_true, Bool.false_eq_true, if_false, Out.andThen_norm, Out.andThenB_norm, List.getD_cons_zero, List.getD_cons_succ, DC.bb_b, DC.ii_i, DC.ss_s, DC.ll_sl, l1, l2, l6, and_self, w, Int.toNat_natCast]
    rfl
  | false =>
  cases h92 : b == 92 with
  | true =>
    rw [beq_iff_eq] at h92
    subst h92
    have g0 : Lib.indexByte [34, 92, 8, 9, 10, 12, 13] 92 = 1 := by decide
    have g1 : decide ((1 : Int) ≥ 0) = true := rfl
    have g2 : (0 ≤ (1 : Int) ∧ (1 : Int) < (([34, 92, 98, 116, 110, 102, 114] : List UInt8).length : Int)) = True := by simp
    have g3 : ([34, 92, 98, 116, 110, 102, 114] : List UInt8).getD (1 : Int).toNat 0 = 92 := rfl
    simp only [g0, g1, g2, g3, if_true, Bool.false_eq_true, if_false, Out.andThen_norm, Out.andThenB_norm, List.getD_cons_zero, List.getD_cons_succ, DC.bb_b, DC.ii_i, DC.ss_s, DC.ll_sl, l1, l2, l6, and_self, w, Int.toNat_natCast, h34]
    rfl
  | false =>
  cases h8 : b == 8 with
  | true =>
    rw [beq_iff_eq] at h8
    subst h8
    have g0 : Lib.indexByte [34, 92, 8, 9, 10, 12, 13] 8 = 2 := by decide
    have g1 : decide ((2 : Int) ≥ 0) = true := rfl
    have g2 : (0 ≤ (2 : Int) ∧ (2 : Int) < (([34, 92, 98, 116, 110, 102, 114] : List UInt8).length : Int)) = True := by simp
    have g3 : ([34, 92, 98, 116, 110, 102, 114] : List UInt8).getD (2 : Int).toNat 0 = 98 := rfl
    simp only [g0, g1, g2, g3, if_true, Bool.false_eq_true, if_false, Out.andThen_norm, Out.andThenB_norm, List.getD_cons_zero, List.getD_cons_succ, DC.bb_b, DC.ii_i, DC.ss_s, DC.ll_sl, l1, l2, l6, and_self, w, Int.toNat_natCast, h34, h92]
    rfl
  | false =>
  cases h9 : b == 9 with
  | true =>
    rw [beq_iff_eq] at h9
    subst h9
    have g0 : Lib.indexByte [34, 92, 8, 9, 10, 12, 13] 9 = 3 := by decide
    have g1 : decide ((3 : Int) ≥ 0) = true := rfl
    have g2 : (0 ≤ (3 : Int) ∧ (3 : Int) < (([34, 92, 98, 116, 110, 102, 114] : List UInt8).length : Int)) = True := by simp
    have g3 : ([34, 92, 98, 116, 110, 102, 114] : List UInt8).getD (3 : Int).toNat 0 = 116 := rfl
    simp only [g0, g1, g2, g3, if_true, Bool.false_eq_true, if_false, Out.andThen_norm, Out.andThenB_norm, List.getD_cons_zero, List.getD_cons_succ, DC.bb_b, DC.ii_i, DC.ss_s, DC.ll_sl, l1, l2, l6, and_self, w, Int.toNat_natCast, h34, h92, h8]
    rfl
  | false =>
  cases h10 : b == 10 with
  | true =>
    rw [beq_iff_eq] at h10
    subst h10
    have g0 : Lib.indexByte [34, 92, 8, 9, 10, 12, 13] 10 = 4 := by decide
    have g1 : decide ((4 : Int) ≥ 0) = true := rfl
    have g2 : (0 ≤ (4 : Int) ∧ (4 : Int) < (([34, 92, 98, 116, 110, 102, 114] : List UInt8).length : Int)) = True := by simp
    have g3 : ([34, 92, 98, 116, 110, 102, 114] : List UInt8).getD (4 : Int).toNat 0 = 110 := rfl
    simp only [g0, g1, g2, g3, if_true, Bool.false_eq_true, if_false, Out.andThen_norm, Out.andThenB_norm, List.getD_cons_zero, List.getD_cons_succ, DC.bb_b, DC.ii_i, DC.ss_s, DC.ll_sl, l1, l2, l6, and_self, w, Int.toNat_natCast, h34, h92, h8, h9]
    rfl
  | false =>
  cases h12 : b == 12 with
  | true =>
    rw [beq_iff_eq] at h12
    subst h12
    have g0 : Lib.indexByte [34, 92, 8, 9, 10, 12, 13] 12 = 5 := by decide
    have g1 : decide ((5 : Int) ≥ 0) = true := rfl
    have g2 : (0 ≤ (5 : Int) ∧ (5 : Int) < (([34, 92, 98, 116, 110, 102, 114] : List UInt8).length : Int)) = True := by simp
    have g3 : ([34, 92, 98, 116, 110, 102, 114] : List UInt8).getD (5 : Int).toNat 0 = 102 := rfl
    simp only [g0, g1, g2, g3, if_true, Bool.false_eq_true, if_false, Out.andThen_norm, Out.andThenB_norm, List.getD_cons_zero, List.getD_cons_succ, DC.bb_b, DC.ii_i, DC.ss_s, DC.ll_sl, l1, l2, l6, and_self, w, Int.toNat_natCast, h34, h92, h8, h9, h10]
    rfl
  | false =>
  cases h13 : b == 13 with
  | true =>
    rw [beq_iff_eq] at h13
    subst h13
    have g0 : Lib.indexByte [34, 92, 8, 9, 10, 12, 13] 13 = 6 := by decide
    have g1 : decide ((6 : Int) ≥ 0) = true := rfl
    have g2 : (0 ≤ (6 : Int) ∧ (6 : Int) < (([34, 92, 98, 116, 110, 102, 114] : List UInt8).length : Int)) = True := by simp
    have g3 : ([34, 92, 98, 116, 110, 102, 114] : List UInt8).getD (6 : Int).toNat 0 = 114 := rfl
    simp only [g0, g1, g2, g3, if_true, Bool.false_eq_true, if_false, Out.andThen_norm, Out.andThenB_norm, List.getD_cons_zero, List.getD_cons_succ, DC.bb_b, DC.ii_i, DC.ss_s, DC.ll_sl, l1, l2, l6, and_self, w, Int.toNat_natCast, h34, h92, h8, h9, h10, h12]
    rfl
  | false =>
  have cm : ∀ c : UInt8, (c == b) = (b == c) := fun c => by rw [Bool.eq_iff_iff, beq_iff_eq, beq_iff_eq]; exact ⟨Eq.symm, Eq.symm⟩
  have g0 : Lib.indexByte [34, 92, 8, 9, 10, 12, 13] b = -1 := by
    simp only [Lib.indexByte, cm, h34, h92, h8, h9, h10, h12, h13, Bool.false_eq_true, if_false, beq_self_eq_true, if_true]
  have g1 : decide ((-1 : Int) ≥ 0) = false := rfl
  have q1 := shr4 ⟨b.toNat, hb⟩
  have q2 := and15 ⟨b.toNat, hb⟩
  have q3 : (0 ≤ ((b.toNat / 16 : Nat) : Int) ∧ ((b.toNat / 16 : Nat) : Int) < (([48, 49, 50, 51, 52, 53, 54, 55, 56, 57, 97, 98, 99, 100, 101, 102] : List UInt8).length : Int)) = True := by
    simp only [List.length_cons, List.length_nil, eq_iff_iff, iff_true]
    omega
  have q4 : (0 ≤ ((b.toNat % 16 : Nat) : Int) ∧ ((b.toNat % 16 : Nat) : Int) < (([48, 49, 50, 51, 52, 53, 54, 55, 56, 57, 97, 98, 99, 100, 101, 102] : List UInt8).length : Int)) = True := by
    simp only [List.length_cons, List.length_nil, eq_iff_iff, iff_true]
    omega
  have q5 : ¬ (4 : Int) < 0 := by decide
  by_cases h32 : b.toNat < 32
  · have d : decide (b.toNat < 32) = true := decide_eq_true h32
    simp only [g0, g1, u32, d, h32, decide_true, true_or, q1, q2, q3, q4, q5, h34, h92, h8, h9, h10, h12, h13, if_true, Bool.false_eq_true, if_false, Out.andThen_norm, Out.andThenB_norm, List.getD_cons_zero, List.getD_cons_succ, DC.bb_b, DC.ii_i, DC.ss_s, DC.ll_sl, l1, l2, l6, and_self, w, Int.toNat_natCast]
    rfl
  · have d : decide (b.toNat < 32) = false := decide_eq_false h32
    cases h127 : b == 127 with
    | true =>
      simp only [g0, g1, u32, u127, d, h32, h127, decide_false, or_true, q1, q2, q3, q4, q5, h34, h92, h8, h9, h10, h12, h13, if_true, Bool.false_eq_true, if_false, Out.andThen_norm, Out.andThenB_norm, List.getD_cons_zero, List.getD_cons_succ, DC.bb_b, DC.ii_i, DC.ss_s, DC.ll_sl, l1, l2, l6, and_self, w, Int.toNat_natCast]
      rfl
    | false =>
      simp only [g0, g1, u32, u127, d, h32, h127, decide_false, or_self, h34, h92, h8, h9, h10, h12, h13, if_true, Bool.false_eq_true, if_false, Out.andThen_norm, Out.andThenB_norm, List.getD_cons_zero, List.getD_cons_succ, DC.bb_b, DC.ii_i, DC.ss_s, DC.ll_sl, l1, l2, l6, and_self, w, Int.toNat_natCast]
      rfl

theorem impl_Escaped (s : List UInt8) (hs : s.length ≤ 1048576) : r_impl_Escaped [.s s] = .ret [.s (escaped s)] := by
  rw [eq_impl_Escaped]
  simp only [E_impl_Escaped, List.getD_cons_zero, List.getD_cons_succ, DC.bb_b, DC.ii_i, DC.ss_s, impl_TextOk s hs, Out.bindR_ret]
  cases hv : Lib.validD s with
  | false =>
    have he : escaped s = [] := by unfold escaped; rw [if_neg (by rw [hv]; simp)]
    rw [he]
    simp
  | true =>
    rcases Nat.lt_or_ge 200 s.length with h | h
    · have e : decide ((s.length : Int) > 200) = true := decide_eq_true (by omega)
      have he : escaped s = [] := by unfold escaped; rw [if_neg (by omega)]
      rw [he]
      simp only [e, Bool.not_true, Bool.false_eq_true, if_false, if_true, Out.andThen_norm, List.getD_cons_zero, List.getD_cons_succ, DC.bb_b]
    · have e : decide ((s.length : Int) > 200) = false := decide_eq_false (by omega)
      have he : escaped s = 34 :: (escs s ++ [34]) := by unfold escaped; rw [if_pos ⟨hv, h⟩]
      rw [he]
      simp only [e, Bool.not_true, Bool.false_eq_true, if_false, if_true, Out.andThen_norm, List.getD_cons_zero, List.getD_cons_succ, DC.bb_b, DC.ss_s]
      have key := Loop_upto (F := E_impl_EscapedL1) (st := fun i => [.s s, .sl (brows (34 :: escs (s.take i))), .i (s.length : Int), .i (i : Int)]) (o := .ex 0 [.sl (brows (34 :: escs s))]) s.length 0 (fun j _ hj => ?step) ?fin
      · have k2 : Loop E_impl_EscapedL1 [.s s, .sl [[.i 34]], .i (s.length : Int), .i 0] = .ex 0 [.sl (brows (34 :: escs s))] := key
        have hl := escs_len s
        have L : (brows (34 :: escs s)).length + [[DC.i (34 : Int)]].length < LIM := Nat.lt_of_le_of_lt (show _ ≤ 2010 by rw [brows_len]; simp; omega) (by decide)
        rw [k2]
        simp only [Out.andThenB_ex, if_true, List.getD_cons_zero, DC.ll_sl, L]
        have : brows (34 :: escs s) ++ [[DC.i (34 : Int)]] = brows (34 :: (escs s ++ [34])) := (brows_app (34 :: escs s) [34]).symm
        rw [this, rowBytes_rows]
      case step =>
        have hj' : j < s.length := by omega
        have hl := escs_len (s.take j)
        rw [List.length_take] at hl
        rw [impl_Escaped_step s _ j h hj' (by simp; omega)]
        congr 5
        rw [List.take_succ_eq_append_getElem hj', escs, escs, List.flatMap_append, List.flatMap_singleton, List.getD_eq_getElem?_getD, List.getElem?_eq_getElem hj']
        rfl
      case fin =>
        have e : decide ((s.length : Int) < (s.length : Int)) = false := decide_eq_false (by omega)
        rw [Nat.zero_add]
        refine Loop_ex ?_
        simp only [E_impl_EscapedL1, List.getD_cons_zero, List.getD_cons_succ, DC.ii_i, DC.ss_s, DC.ll_sl, e, Bool.false_eq_true, if_false, List.take_length]
end Go.Proofs.YtljggmbgbnmapaaDoorV

/- Names: what both implementations answer. -/
namespace Go.Proofs.YtljggmbgbnmapaaDoorV
open Go
set_option linter.unusedVariables false
set_option linter.unusedSimpArgs false
set_option maxRecDepth 100000

def letr (b : UInt8) : Bool := (decide (97 ≤ b.toNat) && decide (b.toNat ≤ 122)) || (decide (65 ≤ b.toNat) && decide (b.toNat ≤ 90))
def nmC (b : UInt8) : Bool := letr b || (isFig b || b == 95)

theorem spec_l03Letter (b : UInt8) : r_spec_l03Letter [.i (b.toNat : Int)] = .ret [.b (letr b || b == 95)] := by
  rw [eq_spec_l03Letter]
  have u : ((b.toNat : Int) == 95) = (b == 95) := u8_eq b 95 (by omega)
  have a1 : decide ((b.toNat : Int) ≥ 97) = decide (97 ≤ b.toNat) := by rw [Bool.eq_iff_iff, decide_eq_true_eq, decide_eq_true_eq]; omega
  have a2 : decide ((b.toNat : Int) ≤ 122) = decide (b.toNat ≤ 122) := by rw [Bool.eq_iff_iff, decide_eq_true_eq, decide_eq_true_eq]; omega
  have a3 : decide ((b.toNat : Int) ≥ 65) = decide (65 ≤ b.toNat) := by rw [Bool.eq_iff_iff, decide_eq_true_eq, decide_eq_true_eq]; omega
  have a4 : decide ((b.toNat : Int) ≤ 90) = decide (b.toNat ≤ 90) := by rw [Bool.eq_iff_iff, decide_eq_true_eq, decide_eq_true_eq]; omega
  simp only [E_spec_l03Letter, List.getD_cons_zero, DC.ii_i, u, a1, a2, a3, a4, letr]
  cases decide (97 ≤ b.toNat) <;> cases decide (b.toNat ≤ 122) <;> cases decide (65 ≤ b.toNat) <;> cases decide (b.toNat ≤ 90) <;> rfl
theorem impl_isLetter (b : UInt8) : r_impl_isLetter [.i (b.toNat : Int)] = .ret [.b (letr b)] := by
  rw [eq_impl_isLetter]
  have a1 : decide ((b.toNat : Int) ≥ 97) = decide (97 ≤ b.toNat) := by rw [Bool.eq_iff_iff, decide_eq_true_eq, decide_eq_true_eq]; omega
  have a2 : decide ((b.toNat : Int) ≤ 122) = decide (b.toNat ≤ 122) := by rw [Bool.eq_iff_iff, decide_eq_true_eq, decide_eq_true_eq]; omega
  have a3 : decide ((b.toNat : Int) ≥ 65) = decide (65 ≤ b.toNat) := by rw [Bool.eq_iff_iff, decide_eq_true_eq, decide_eq_true_eq]; omega
  have a4 : decide ((b.toNat : Int) ≤ 90) = decide (b.toNat ≤ 90) := by rw [Bool.eq_iff_iff, decide_eq_true_eq, decide_eq_true_eq]; omega
  simp only [E_impl_isLetter, List.getD_cons_zero, DC.ii_i, a1, a2, a3, a4, letr]
  cases decide (97 ≤ b.toNat) <;> cases decide (b.toNat ≤ 122) <;> cases decide (65 ≤ b.toNat) <;> cases decide (b.toNat ≤ 90) <;> rfl
theorem impl_inName (b : UInt8) : r_impl_inName [.i (b.toNat : Int)] = .ret [.b (nmC b)] := by
  rw [eq_impl_inName]
  have u : ((b.toNat : Int) == 95) = (b == 95) := u8_eq b 95 (by omega)
  simp only [E_impl_inName, List.getD_cons_zero, DC.ii_i, u, impl_isLetter, impl_isFigure, Out.bindR_ret, DC.bb_b, nmC]
  cases letr b <;> cases isFig b <;> simp
theorem impl_in (n a b : Int) : r_impl_in [.i n, .i a, .i b] = .ret [.b (decide (a ≤ n) && decide (n ≤ b))] := by
  rw [eq_impl_in]
  simp only [E_impl_in, List.getD_cons_zero, List.getD_cons_succ, DC.bb_b, DC.ii_i]
  by_cases h : a ≤ n
  · have : decide (n ≥ a) = true := decide_eq_true h
    simp [this, h]
  · have : decide (n ≥ a) = false := decide_eq_false h
    simp [this, h]

def nameOk (s : List UInt8) : Bool := decide (0 < s.length) && (decide (s.length ≤ 30) && (!isFig (s.getD 0 0) && s.all nmC))

theorem spec_NameOk (s : List UInt8) (hs : s.length ≤ 1048576) : r_spec_NameOk [.s s] = .ret [.b (nameOk s)] := by
  rw [eq_spec_NameOk]
  have hl : Loop E_spec_NameOkL1 [.s s, .i 0] = if (s.any fun x => !nmC x) = true then .ret [.b false] else .ex 0 [] := by
    rw [show (0 : Int) = ((0 : Nat) : Int) from rfl, Loop_find0 (l := s) (st := fun i => [.s s, .i (i : Int)]) (p := fun x => !nmC x) (stop := fun i _ => .ret [.b false]) (fin := .ex 0 []) (fun i hi => ?step) (fun _ _ => Out.esc_ret _) ?fin (Out.esc_ex _ _), goF_any]
    case step =>
      have hg : s.getD i 0 = s[i] := by rw [List.getD_eq_getElem?_getD, List.getElem?_eq_getElem hi]; rfl
      have d : decide ((i : Int) < (s.length : Int)) = true := decide_eq_true (by omega)
      have c : 0 ≤ (i : Int) ∧ (i : Int) < (s.length : Int) := by omega
      simp only [E_spec_NameOkL1, List.getD_cons_zero, List.getD_cons_succ, DC.bb_b, DC.ii_i, DC.ss_s, Int.toNat_natCast, hg, d, c, if_true, and_self, decide_true, spec_l03Letter, spec_l03Figure, Out.bindR_ret]
      rcases Bool.eq_false_or_eq_true (letr s[i]) with h1 | h1 <;> rcases Bool.eq_false_or_eq_true (s[i] == 95) with h2 | h2 <;> rcases Bool.eq_false_or_eq_true (isFig s[i]) with h3 | h3 <;> simp [nmC, h1, h2, h3, wrap_succ hi (show s.length ≤ 9223372036854775807 by omega)]
    case fin => simp [E_spec_NameOkL1]
  rw [show (s.any fun x => !nmC x) = !(s.all nmC) by rw [List.not_all_eq_any_not]] at hl
  unfold nameOk
  cases s with
  | nil => simp [E_spec_NameOk]
  | cons a l =>
    have hz : (((a :: l).length : Int) == 0) = false := beq_eq_false_iff_ne.2 (by rw [List.length_cons]; omega)
    have h0 : 0 ≤ (0 : Int) ∧ (0 : Int) < ((a :: l).length : Int) := by simp
    have hg : (a :: l).getD (0 : Int).toNat 0 = a := rfl
    have hp : decide (0 < (a :: l).length) = true := by simp
    have hd : decide (((a :: l).length : Int) > 30) = !decide ((a :: l).length ≤ 30) := by
      rw [Bool.eq_iff_iff, Bool.not_eq_true', decide_eq_true_eq, decide_eq_false_iff_not]; omega
    have hg2 : (a :: l).getD 0 0 = a := rfl
    simp only [E_spec_NameOk, List.getD_cons_zero, List.getD_cons_succ, DC.bb_b, DC.ii_i, DC.ss_s, hz, h0, hg, hp, hd, spec_l03Figure, Out.bindR_ret, Bool.false_eq_true, if_false, if_true, and_self, Bool.true_and]
    generalize (a :: l).all nmC = q at *
    cases decide ((a :: l).length ≤ 30) with
    | false => simp
    | true =>
      cases isFig a with
      | true => simp
      | false =>
        simp only [Bool.not_true, Bool.false_eq_true, if_false, Out.andThen_norm, List.getD_cons_zero, List.getD_cons_succ, DC.bb_b, DC.ss_s, hl]
        cases q <;> simp

theorem impl_NameOk (s : List UInt8) (hs : s.length ≤ 1048576) : r_impl_NameOk [.s s] = .ret [.b (nameOk s)] := by
  rw [eq_impl_NameOk]
  have hl : Loop E_impl_NameOkL1 [.s s, .i (s.length : Int), .i 0] = if (s.any fun x => !nmC x) = true then .ret [.b false] else .ex 0 [] := by
    rw [show (0 : Int) = ((0 : Nat) : Int) from rfl, Loop_find0 (l := s) (st := fun i => [.s s, .i (s.length : Int), .i (i : Int)]) (p := fun x => !nmC x) (stop := fun i _ => .ret [.b false]) (fin := .ex 0 []) (fun i hi => ?step) (fun _ _ => Out.esc_ret _) ?fin (Out.esc_ex _ _), goF_any]
    case step =>
      have hg : s.getD i 0 = s[i] := by rw [List.getD_eq_getElem?_getD, List.getElem?_eq_getElem hi]; rfl
      have d : decide ((i : Int) < (s.length : Int)) = true := decide_eq_true (by omega)
      have c : 0 ≤ (i : Int) ∧ (i : Int) < (s.length : Int) := by omega
      simp only [E_impl_NameOkL1, List.getD_cons_zero, List.getD_cons_succ, DC.bb_b, DC.ii_i, DC.ss_s, Int.toNat_natCast, hg, d, c, if_true, and_self, decide_true, impl_inName, Out.bindR_ret]
      cases nmC s[i] <;> simp [wrap_succ hi (show s.length ≤ 9223372036854775807 by omega)]
    case fin => simp [E_impl_NameOkL1]
  rw [show (s.any fun x => !nmC x) = !(s.all nmC) by rw [List.not_all_eq_any_not]] at hl
  unfold nameOk
  cases s with
  | nil =>
    simp only [E_impl_NameOk, List.getD_cons_zero, DC.ss_s, impl_in]
    simp
  | cons a l =>
    have h0 : 0 ≤ (0 : Int) ∧ (0 : Int) < ((a :: l).length : Int) := by simp
    have hg : (a :: l).getD (0 : Int).toNat 0 = a := rfl
    have hp : decide (0 < (a :: l).length) = true := by simp
    have hp2 : decide ((1 : Int) ≤ ((a :: l).length : Int)) = true := decide_eq_true (by rw [List.length_cons]; omega)
    have hd : decide (((a :: l).length : Int) ≤ 30) = decide ((a :: l).length ≤ 30) := by
      rw [Bool.eq_iff_iff, decide_eq_true_eq, decide_eq_true_eq]; omega
    have hg2 : (a :: l).getD 0 0 = a := rfl
    simp only [E_impl_NameOk, List.getD_cons_zero, List.getD_cons_succ, DC.bb_b, DC.ii_i, DC.ss_s, impl_in, h0, hg, hp, hp2, hd, impl_isFigure, Out.bindR_ret, Bool.false_eq_true, if_false, if_true, and_self, Bool.true_and]
    generalize (a :: l).all nmC = q at *
    cases decide ((a :: l).length ≤ 30) with
    | false => simp
    | true =>
      cases isFig a with
      | true => simp
      | false =>
        simp only [Bool.not_true, Bool.false_eq_true, if_false, Out.andThen_norm, List.getD_cons_zero, List.getD_cons_succ, DC.bb_b, DC.ss_s, hl]
        cases q <;> simp
end Go.Proofs.YtljggmbgbnmapaaDoorV

/- Tokens and their shortest text: what both implementations answer. -/
namespace Go.Proofs.YtljggmbgbnmapaaDoorV
open Go
set_option linter.unusedVariables false
set_option linter.unusedSimpArgs false
set_option maxRecDepth 100000

def sg (a : UInt8) : Bool := a == 33 || (a == 36 || (a == 38 || (a == 40 || (a == 41 || (a == 58 || (a == 61 || (a == 64 || (a == 91 || (a == 93 || (a == 123 || (a == 124 || a == 125)))))))))))
def signOk (s : List UInt8) : Bool := s == [46, 46, 46] || (match s with | [a] => sg a | _ => false)
theorem contains_sg : ∀ n : Fin 256, Lib.contains [33, 36, 38, 40, 41, 58, 61, 64, 91, 93, 123, 124, 125] [UInt8.ofNat n.1] = sg (UInt8.ofNat n.1) := by decide +kernel

theorem strings_Contains_ok (s c : List UInt8) (hs : s.length ≤ 1048576) : r_strings_Contains [.s s, .s c] = .ret [.b (Lib.contains s c)] := by
  rw [eq_strings_Contains]
  unfold E_strings_Contains primH
  have hh : hintLit [.s, .s] h_strings_Contains = true := rfl
  have hq : qContains [.s s, .s c] = some [.b (Lib.contains s c)] := by
    unfold qContains
    simp only
    rw [if_pos (by omega)]
  rw [hh, hq]
  rfl

theorem impl_SignOk (s : List UInt8) : r_impl_SignOk [.s s] = .ret [.b (signOk s)] := by
  rw [eq_impl_SignOk]
  simp only [E_impl_SignOk, List.getD_cons_zero, DC.ss_s]
  rw [strings_Contains_ok _ _ (by simp)]
  unfold signOk
  cases h : s == [46, 46, 46] with
  | true => simp
  | false =>
    cases s with
    | nil => simp
    | cons a l =>
      cases l with
      | nil =>
        have := contains_sg ⟨a.toNat, a.toNat_lt⟩
        simp only [UInt8.ofNat_toNat] at this
        simp [this]
      | cons b l =>
        have : ¬ ((l.length : Int) + 1 + 1 = 1) := by omega
        simp [this]

set_option maxHeartbeats 2000000 in
theorem spec_SignOk (s : List UInt8) : r_spec_SignOk [.s s] = .ret [.b (signOk s)] := by
  rw [eq_spec_SignOk]
  cases s with
  | nil => simp [E_spec_SignOk, signOk]
  | cons a l =>
    cases l with
    | nil =>
      by_cases h1 : a = 33
      · subst h1; simp [E_spec_SignOk, signOk, sg]
      by_cases h2 : a = 36
      · subst h2; simp [E_spec_SignOk, signOk, sg]
      by_cases h3 : a = 38
      · subst h3; simp [E_spec_SignOk, signOk, sg]
      by_cases h4 : a = 40
      · subst h4; simp [E_spec_SignOk, signOk, sg]
      by_cases h5 : a = 41
      · subst h5; simp [E_spec_SignOk, signOk, sg]
      by_cases h6 : a = 58
      · subst h6; simp [E_spec_SignOk, signOk, sg]
      by_cases h7 : a = 61
      · subst h7; simp [E_spec_SignOk, signOk, sg]
      by_cases h8 : a = 64
      · subst h8; simp [E_spec_SignOk, signOk, sg]
      by_cases h9 : a = 91
      · subst h9; simp [E_spec_SignOk, signOk, sg]
      by_cases h10 : a = 93
      · subst h10; simp [E_spec_SignOk, signOk, sg]
      by_cases h11 : a = 123
      · subst h11; simp [E_spec_SignOk, signOk, sg]
      by_cases h12 : a = 124
      · subst h12; simp [E_spec_SignOk, signOk, sg]
      by_cases h13 : a = 125
      · subst h13; simp [E_spec_SignOk, signOk, sg]
      · simp [E_spec_SignOk, signOk, sg, h1, h2, h3, h4, h5, h6, h7, h8, h9, h10, h11, h12, h13]
    | cons b l =>
      by_cases h : a :: b :: l = [46, 46, 46]
      · rw [h]; simp [E_spec_SignOk, signOk]
      · simp at h
        cases l with
        | nil => simp [E_spec_SignOk, signOk]
        | cons c l =>
          by_cases h' : a = 46 ∧ b = 46 ∧ c = 46 ∧ l = []
          · exact absurd h'.2.2 (by simpa using h h'.1 h'.2.1)
          · simp [E_spec_SignOk, signOk, h']
            exact fun x y z w => h' ⟨x, y, z, w⟩

/-- A token that is right; its text; does a blank stand between two. -/
def tokOk (k : Int) (t : List UInt8) : Bool := (k == 1 && signOk t) || ((k == 2 && nameOk t) || ((k == 3 && intOk t) || ((k == 4 && floatI t) || (k == 5 && !(escaped t == [])))))
def tokText (k : Int) (t : List UInt8) : List UInt8 := if (k == 5) = true then escaped t else t
def wordy (k : Int) : Bool := decide (2 ≤ k) && decide (k ≤ 4)
def apartT (k1 k2 : Int) (t2 : List UInt8) : Bool := (wordy k1 && wordy k2) || ((k1 == 5 && k2 == 5) || ((k1 == 3 || k1 == 4) && (k2 == 1 && t2 == [46, 46, 46])))

theorem spec_TokenOk (k a : Int) (t : List UInt8) (ht : t.length ≤ 1048576) : r_spec_TokenOk [.i k, .s t, .i a] = .ret [.b (tokOk k t)] := by
  rw [eq_spec_TokenOk]
  simp only [E_spec_TokenOk, List.getD_cons_zero, List.getD_cons_succ, DC.ii_i, DC.ss_s, DC.bb_b, spec_SignOk, spec_NameOk t ht, spec_IntOk t ht, spec_FloatOk t ht, spec_Escaped t ht, float_eq, Out.bindR_ret]
  unfold tokOk
  by_cases k1 : k = 1
  · subst k1; simp
  by_cases k2 : k = 2
  · subst k2; simp
  by_cases k3 : k = 3
  · subst k3; simp
  by_cases k4 : k = 4
  · subst k4; simp
  by_cases k5 : k = 5
  · subst k5; simp
  simp [k1, k2, k3, k4, k5]
theorem impl_TokenOk (k a : Int) (t : List UInt8) (ht : t.length ≤ 1048576) : r_impl_TokenOk [.i k, .s t, .i a] = .ret [.b (tokOk k t)] := by
  rw [eq_impl_TokenOk]
  simp only [E_impl_TokenOk, List.getD_cons_zero, List.getD_cons_succ, DC.ii_i, DC.ss_s, DC.bb_b, impl_SignOk, impl_NameOk t ht, impl_IntOk t ht, impl_FloatOk t ht, impl_Escaped t ht, Out.bindR_ret]
  unfold tokOk
  by_cases k1 : k = 1
  · subst k1; simp
  by_cases k2 : k = 2
  · subst k2; simp
  by_cases k3 : k = 3
  · subst k3; simp
  by_cases k4 : k = 4
  · subst k4; simp
  by_cases k5 : k = 5
  · subst k5; simp
  simp [k1, k2, k3, k4, k5]
theorem spec_TokenText (k a : Int) (t : List UInt8) (ht : t.length ≤ 1048576) : r_spec_TokenText [.i k, .s t, .i a] = .ret [.s (tokText k t)] := by
  rw [eq_spec_TokenText]
  simp only [E_spec_TokenText, List.getD_cons_zero, List.getD_cons_succ, DC.ii_i, DC.ss_s, spec_Escaped t ht, Out.bindR_ret, tokText]
  cases k == 5 <;> simp
theorem impl_TokenText (k a : Int) (t : List UInt8) (ht : t.length ≤ 1048576) : r_impl_TokenText [.i k, .s t, .i a] = .ret [.s (tokText k t)] := by
  rw [eq_impl_TokenText]
  simp only [E_impl_TokenText, List.getD_cons_zero, List.getD_cons_succ, DC.ii_i, DC.ss_s, impl_Escaped t ht, Out.bindR_ret, tokText]
  cases k == 5 <;> simp

theorem spec_Apart_ok (k1 a1 k2 a2 : Int) (t1 t2 : List UInt8) : r_spec_Apart [.i k1, .s t1, .i a1, .i k2, .s t2, .i a2] = .ret [.b (apartT k1 k2 t2)] := by
  have hw : ∀ (k a : Int) (t : List UInt8), r_spec_l15Wordy [.i k, .s t, .i a] = .ret [.b (wordy k)] := fun k a t => by
    rw [eq_spec_l15Wordy]
    simp only [E_spec_l15Wordy, List.getD_cons_zero, DC.ii_i, spec_l01In, Out.bindR_ret, DC.bb_b, wordy]
  rw [eq_spec_Apart]
  simp only [E_spec_Apart, List.getD_cons_zero, List.getD_cons_succ, DC.ii_i, DC.ss_s, DC.bb_b, hw, Out.bindR_ret, apartT]
  have x5 : k1 = 5 → wordy k1 = false := fun h => by subst h; rfl
  generalize wordy k1 = p at *
  generalize wordy k2 = q at *
  by_cases h5 : k1 = 5
  · subst h5
    have := x5 rfl
    subst this
    by_cases g5 : k2 = 5
    · subst g5; simp
    · simp [g5]
  · by_cases h3 : k1 = 3
    · subst h3
      cases p <;> cases q <;> by_cases g1 : k2 = 1 <;> simp [g1]
    · by_cases h4 : k1 = 4
      · subst h4
        cases p <;> cases q <;> by_cases g1 : k2 = 1 <;> simp [g1]
      · cases p <;> cases q <;> simp [h5, h3, h4]

theorem impl_Apart_ok (k1 a1 k2 a2 : Int) (t1 t2 : List UInt8) : r_impl_Apart [.i k1, .s t1, .i a1, .i k2, .s t2, .i a2] = .ret [.b (apartT k1 k2 t2)] := by
  have hn : ∀ (k a : Int) (t : List UInt8), r_impl_isNumber [.i k, .s t, .i a] = .ret [.b (k == 3 || k == 4)] := fun k a t => by
    rw [eq_impl_isNumber]
    simp only [E_impl_isNumber, List.getD_cons_zero, DC.ii_i]
    cases k == 3 <;> simp
  have hw : ∀ (k a : Int) (t : List UInt8), r_impl_Apart_1 [.i k, .s t, .i a] = .ret [.b (wordy k)] := fun k a t => by
    rw [eq_impl_Apart_1]
    simp only [E_impl_Apart_1, List.getD_cons_zero, List.getD_cons_succ, DC.ii_i, DC.ss_s, hn, Out.bindR_ret, DC.bb_b]
    have e : wordy k = (k == 2 || (k == 3 || k == 4)) := by
      unfold wordy
      rw [Bool.eq_iff_iff]
      simp only [Bool.and_eq_true, Bool.or_eq_true, decide_eq_true_eq, beq_iff_eq]
      omega
    rw [e]
    cases k == 2 <;> simp
  rw [eq_impl_Apart]
  simp only [E_impl_Apart, List.getD_cons_zero, List.getD_cons_succ, DC.ii_i, DC.ss_s, DC.bb_b, hw, hn, Out.bindR_ret, apartT]
  generalize wordy k1 = p
  generalize wordy k2 = q
  by_cases h5 : k1 = 5
  · subst h5
    by_cases g5 : k2 = 5
    · subst g5; cases p <;> cases q <;> simp
    · cases p <;> cases q <;> simp [g5]
  · by_cases h3 : k1 = 3
    · subst h3
      cases p <;> cases q <;> by_cases g1 : k2 = 1 <;> (try subst g1) <;> cases ht : t2 == [46, 46, 46] <;> simp [ht, *]
    · by_cases h4 : k1 = 4
      · subst h4
        cases p <;> cases q <;> by_cases g1 : k2 = 1 <;> (try subst g1) <;> cases ht : t2 == [46, 46, 46] <;> simp [ht, *]
      · cases p <;> cases q <;> simp [h5, h3, h4]

theorem brows_eq (l : List UInt8) : bytesRow l = brows l := rfl
/-- What stands between a token and the one ahead of it. -/
def gap (ts : List TToken) (i : Nat) : List UInt8 := if 0 < i ∧ apartT (ts.getD (i - 1) ⟨0, [], 0⟩).kind (ts.getD i ⟨0, [], 0⟩).kind (ts.getD i ⟨0, [], 0⟩).text = true then [32] else []
theorem gap_len (ts : List TToken) (i : Nat) : (gap ts i).length ≤ 1 := by
  unfold gap
  split <;> simp
theorem tokText_len {k : Int} {t : List UInt8} (h : tokOk k t = true) : (tokText k t).length ≤ 1202 := by
  unfold tokText
  by_cases h5 : k = 5
  · subst h5
    simp only [beq_self_eq_true, if_true]
    unfold escaped
    split
    · rename_i hh
      have := escs_len t
      simp only [List.length_cons, List.length_append, List.length_nil]
      omega
    · simp
  · rw [if_neg (by simpa using h5)]
    unfold tokOk at h
    have e5 : (k == 5) = false := beq_eq_false_iff_ne.2 h5
    simp only [e5, Bool.false_and, Bool.or_false, Bool.or_eq_true, Bool.and_eq_true] at h
    rcases h with h | h | h | h
    · have := h.2
      unfold signOk at this
      rw [Bool.or_eq_true] at this
      rcases this with h2 | h2
      · rw [beq_iff_eq.1 h2]; simp
      · cases t with
        | nil => simp
        | cons a l =>
          cases l with
          | nil => simp
          | cons b l => simp at h2
    · have := h.2
      unfold nameOk at this
      simp only [Bool.and_eq_true, decide_eq_true_eq] at this
      omega
    · have := h.2
      unfold intOk at this
      simp only [Bool.and_eq_true, decide_eq_true_eq] at this
      omega
    · have := h.2
      unfold floatI at this
      simp only [Bool.and_eq_true, decide_eq_true_eq] at this
      omega

def fSpec (ts : List TToken) (i : Nat) (o : List UInt8) (t : TToken) : Sum (List UInt8) Out :=
  if tokOk t.kind t.text = true then (if (o ++ gap ts i ++ tokText t.kind t.text).length ≤ 12000 then .inl (o ++ gap ts i ++ tokText t.kind t.text) else .inr (.ret [.s []])) else .inr (.ret [.s []])
def fImpl (ts : List TToken) (i : Nat) (o : List UInt8) (t : TToken) : Sum (List UInt8) Out :=
  if tokOk t.kind t.text = true then .inl (o ++ gap ts i ++ tokText t.kind t.text) else .inr (.ret [.s []])

theorem getD_tok {ts : List TToken} {i : Nat} (h : i < ts.length) : ts.getD i ⟨0, [], 0⟩ = ts[i] := by
  rw [List.getD_eq_getElem?_getD, List.getElem?_eq_getElem h]; rfl

/-- One round's begin: the same in both. -/
theorem gap_eq (ts : List TToken) (i : Nat) (hi : i < ts.length) : gap ts i = if decide ((i : Int) > 0) = true then (if apartT (ts.getD (i - 1) ⟨0, [], 0⟩).kind ts[i].kind ts[i].text = true then [32] else []) else [] := by
  unfold gap
  rw [getD_tok hi]
  by_cases h : 0 < i
  · rw [show decide ((i : Int) > 0) = true from decide_eq_true (by omega)]
    simp [h]
  · rw [show decide ((i : Int) > 0) = false from decide_eq_false (by omega)]
    simp [h]

theorem spec_Short_loop (ts : List TToken) (hl : ts.length ≤ 2500) (ht : ∀ t ∈ ts, t.text.length ≤ 1048576) :
    Loop E_spec_ShortTextL1 [.sl (ts.map TToken.enc), .sl [], .i 0] = goE (fSpec ts) (fun o => .ex 0 [.sl (brows o)]) 0 [] ts := by
  have := Loop_fold (l := ts) (st := fun i (o : List UInt8) => [.sl (ts.map TToken.enc), .sl (brows o), .i (i : Int)]) (f := fSpec ts) (fin := fun o => .ex 0 [.sl (brows o)]) (F := E_spec_ShortTextL1) (fun i o => o.length ≤ 12000) ?step ?fin ts.length 0 [] (by omega) (by simp)
  · rw [List.drop_zero] at this
    exact this
  case fin =>
    intro o _
    exact ⟨by simp [E_spec_ShortTextL1], Out.esc_ex _ _⟩
  case step =>
    intro i o hi ho
    have htx := ht ts[i] (List.getElem_mem hi)
    have d : decide ((i : Int) < (ts.length : Int)) = true := decide_eq_true (by omega)
    have c : 0 ≤ (i : Int) ∧ (i : Int) < (ts.length : Int) := by omega
    have L : ∀ k, k ≤ 20000 → k < LIM := fun k hk => Nat.lt_of_le_of_lt hk (by decide)
    have w := wrap_succ hi (show ts.length ≤ 9223372036854775807 by omega)
    unfold fSpec
    cases hok : tokOk ts[i].kind ts[i].text with
    | false =>
      right
      refine ⟨.ret [.s []], rfl, Out.esc_ret _, ?_⟩
      simp only [E_spec_ShortTextL1, List.getD_cons_zero, List.getD_cons_succ, DC.bb_b, DC.ii_i, DC.ss_s, DC.ll_sl, Int.toNat_natCast, List.length_map, map_getD hi, TToken.enc_eq, d, c, true_and, and_self, if_true, decide_true, spec_TokenOk _ _ _ htx, hok, Out.bindR_ret, Bool.not_false]
      rfl
    | true =>
      have htl := tokText_len hok
      have hgl := gap_len ts i
      have hstep : E_spec_ShortTextL1 [.sl (ts.map TToken.enc), .sl (brows o), .i (i : Int)] = if (o ++ gap ts i ++ tokText ts[i].kind ts[i].text).length ≤ 12000 then .norm [.sl (ts.map TToken.enc), .sl (brows (o ++ gap ts i ++ tokText ts[i].kind ts[i].text)), .i ((i + 1 : Nat) : Int)] else .ret [.s []] := by
        simp only [E_spec_ShortTextL1, List.getD_cons_zero, List.getD_cons_succ, DC.bb_b, DC.ii_i, DC.ss_s, DC.ll_sl, Int.toNat_natCast, List.length_map, map_getD hi, TToken.enc_eq, d, c, true_and, and_self, if_true, decide_true, spec_TokenOk _ _ _ htx, hok, Out.bindR_ret, Bool.not_true, Bool.false_eq_true, if_false]
        have h2 : ∀ (ap : Bool) (K : List DC → Out), Out.andThen (if ap = true then (if (brows o).length + [[DC.i (32 : Int)]].length < LIM then .norm [.sl (ts.map TToken.enc), .sl (brows o ++ [[DC.i (32 : Int)]]), .i (i : Int)] else .fail) else .norm [.sl (ts.map TToken.enc), .sl (brows o), .i (i : Int)]) K = K [.sl (ts.map TToken.enc), .sl (brows (o ++ if ap = true then [32] else [])), .i (i : Int)] := by
          intro ap K
          cases ap with
          | false => simp
          | true =>
            have hl : (brows o).length + [[DC.i (32 : Int)]].length < LIM := L _ (by rw [brows_len]; simp; omega)
            simp only [hl, if_true, Out.andThen_norm, brows_app]
            rfl
        have h1 : ∀ K : List DC → Out, Out.andThen (if decide ((i : Int) > 0) = true then
              if 0 ≤ (IntKind.i64.wrap ((i : Int) - (1 : Int))) ∧ (IntKind.i64.wrap ((i : Int) - (1 : Int))) < (ts.length : Int) then
                (r_spec_Apart [DC.i ((((ts.map TToken.enc).getD (IntKind.i64.wrap ((i : Int) - (1 : Int))).toNat []).getD 0 d0).ii), DC.s ((((ts.map TToken.enc).getD (IntKind.i64.wrap ((i : Int) - (1 : Int))).toNat []).getD 1 d0).ss), DC.i ((((ts.map TToken.enc).getD (IntKind.i64.wrap ((i : Int) - (1 : Int))).toNat []).getD 2 d0).ii), DC.i ts[i].kind, DC.s ts[i].text, DC.i ts[i].at']).bindR fun r3 =>
                .norm [DC.sl (ts.map TToken.enc), DC.sl (brows o), DC.i (i : Int), DC.b ((r3.getD 0 d0).bb)]
              else
                .fail
            else
              .norm [DC.sl (ts.map TToken.enc), DC.sl (brows o), DC.i (i : Int), DC.b false]) K = K [.sl (ts.map TToken.enc), .sl (brows o), .i (i : Int), .b (decide (0 < i) && apartT (ts.getD (i - 1) ⟨0, [], 0⟩).kind ts[i].kind ts[i].text)] := by
          intro K
          by_cases h0 : 0 < i
          · have dz : decide ((i : Int) > 0) = true := decide_eq_true (by omega)
            have dz' : decide (0 < i) = true := decide_eq_true h0
            have wz : IntKind.i64.wrap ((i : Int) - 1) = ((i - 1 : Nat) : Int) := by rw [wrap64 (by omega) (by omega)]; omega
            have hi1 : i - 1 < ts.length := by omega
            have c1 : 0 ≤ ((i - 1 : Nat) : Int) ∧ ((i - 1 : Nat) : Int) < (ts.length : Int) := by omega
            simp only [dz, dz', wz, c1, and_self, if_true, Int.toNat_natCast, map_getD hi1, TToken.enc_eq, List.getD_cons_zero, List.getD_cons_succ, DC.ii_i, DC.ss_s, spec_Apart_ok, Out.bindR_ret, Out.andThen_norm, DC.bb_b, Bool.true_and, getD_tok hi1]
          · have dz : decide ((i : Int) > 0) = false := decide_eq_false (by omega)
            have dz' : decide (0 < i) = false := decide_eq_false h0
            simp only [dz, dz', Bool.false_eq_true, if_false, Out.andThen_norm, Bool.false_and]
        rw [h1]
        simp only [List.getD_cons_zero, List.getD_cons_succ, DC.bb_b, DC.ii_i, DC.ss_s, DC.ll_sl]
        rw [h2]
        have hg : (if (decide (0 < i) && apartT (ts.getD (i - 1) ⟨0, [], 0⟩).kind ts[i].kind ts[i].text) = true then [32] else []) = gap ts i := by
          unfold gap
          rw [getD_tok hi]
          simp
        rw [hg]
        simp only [List.getD_cons_zero, List.getD_cons_succ, DC.bb_b, DC.ii_i, DC.ss_s, DC.ll_sl, Int.toNat_natCast, List.length_map, map_getD hi, TToken.enc_eq, c, and_self, if_true, spec_TokenText _ _ _ htx, Out.bindR_ret, brows_eq]
        have hl : (brows (o ++ gap ts i)).length + (brows (tokText ts[i].kind ts[i].text)).length < LIM := L _ (by rw [brows_len, brows_len, List.length_append]; omega)
        rw [if_pos hl, ← brows_app, brows_len]
        by_cases hle : (o ++ gap ts i ++ tokText ts[i].kind ts[i].text).length ≤ 12000
        · rw [if_pos hle, show decide (((o ++ gap ts i ++ tokText ts[i].kind ts[i].text).length : Int) > 12000) = false from decide_eq_false (by omega)]
          simp only [Bool.false_eq_true, if_false, Out.andThenB_norm, List.getD_cons_zero, List.getD_cons_succ, DC.ii_i, DC.ll_sl, w]
        · rw [if_neg hle, show decide (((o ++ gap ts i ++ tokText ts[i].kind ts[i].text).length : Int) > 12000) = true from decide_eq_true (by omega)]
          rfl
      rw [hstep]
      by_cases hle : (o ++ gap ts i ++ tokText ts[i].kind ts[i].text).length ≤ 12000
      · left
        exact ⟨_, by simp only [if_true, hle], hle, by rw [if_pos hle]⟩
      · right
        exact ⟨.ret [.s []], by simp only [if_true, hle, if_false], Out.esc_ret _, by rw [if_neg hle]⟩

theorem impl_Short_loop (ts : List TToken) (hl : ts.length ≤ 2500) (ht : ∀ t ∈ ts, t.text.length ≤ 1048576) :
    Loop E_impl_ShortTextL1 [.sl (ts.map TToken.enc), .sl [], .sl (ts.map TToken.enc), .i (ts.length : Int), .i 0] = goE (fImpl ts) (fun o => .ex 0 [.sl (brows o)]) 0 [] ts := by
  have := Loop_fold (l := ts) (st := fun i (o : List UInt8) => [.sl (ts.map TToken.enc), .sl (brows o), .sl (ts.map TToken.enc), .i (ts.length : Int), .i (i : Int)]) (f := fImpl ts) (fin := fun o => .ex 0 [.sl (brows o)]) (F := E_impl_ShortTextL1) (fun i o => o.length ≤ i * 1203) ?step ?fin ts.length 0 [] (by omega) (by simp)
  · rw [List.drop_zero] at this
    exact this
  case fin =>
    intro o _
    exact ⟨by simp [E_impl_ShortTextL1], Out.esc_ex _ _⟩
  case step =>
    intro i o hi ho
    have htx := ht ts[i] (List.getElem_mem hi)
    have d : decide ((i : Int) < (ts.length : Int)) = true := decide_eq_true (by omega)
    have c : 0 ≤ (i : Int) ∧ (i : Int) < (ts.length : Int) := by omega
    have L : ∀ k, k ≤ 4000000 → k < LIM := fun k hk => Nat.lt_of_le_of_lt hk (by decide)
    have ho2 : o.length ≤ 3007500 := by omega
    have w := wrap_succ hi (show ts.length ≤ 9223372036854775807 by omega)
    unfold fImpl
    cases hok : tokOk ts[i].kind ts[i].text with
    | false =>
      right
      refine ⟨.ret [.s []], rfl, Out.esc_ret _, ?_⟩
      simp only [E_impl_ShortTextL1, List.getD_cons_zero, List.getD_cons_succ, DC.bb_b, DC.ii_i, DC.ss_s, DC.ll_sl, Int.toNat_natCast, List.length_map, map_getD hi, TToken.enc_eq, d, c, true_and, and_self, if_true, decide_true, impl_TokenOk _ _ _ htx, hok, Out.bindR_ret, Bool.not_false]
      rfl
    | true =>
      have htl := tokText_len hok
      have hgl := gap_len ts i
      left
      refine ⟨o ++ gap ts i ++ tokText ts[i].kind ts[i].text, rfl, by rw [List.length_append, List.length_append]; omega, ?_⟩
      simp only [E_impl_ShortTextL1, List.getD_cons_zero, List.getD_cons_succ, DC.bb_b, DC.ii_i, DC.ss_s, DC.ll_sl, Int.toNat_natCast, List.length_map, map_getD hi, TToken.enc_eq, d, c, true_and, and_self, if_true, decide_true, impl_TokenOk _ _ _ htx, hok, Out.bindR_ret, Bool.not_true, Bool.false_eq_true, if_false]
      have h2 : ∀ (ap : Bool) (K : List DC → Out), Out.andThen (if ap = true then (if (brows o).length + [[DC.i (32 : Int)]].length < LIM then .norm [.sl (ts.map TToken.enc), .sl (brows o ++ [[DC.i (32 : Int)]]), .sl (ts.map TToken.enc), .i (ts.length : Int), .i (i : Int), .i ts[i].kind, .s ts[i].text, .i ts[i].at'] else .fail) else .norm [.sl (ts.map TToken.enc), .sl (brows o), .sl (ts.map TToken.enc), .i (ts.length : Int), .i (i : Int), .i ts[i].kind, .s ts[i].text, .i ts[i].at']) K = K [.sl (ts.map TToken.enc), .sl (brows (o ++ if ap = true then [32] else [])), .sl (ts.map TToken.enc), .i (ts.length : Int), .i (i : Int), .i ts[i].kind, .s ts[i].text, .i ts[i].at'] := by
        intro ap K
        cases ap with
        | false => simp
        | true =>
          have hl : (brows o).length + [[DC.i (32 : Int)]].length < LIM := L _ (by rw [brows_len]; simp; omega)
          simp only [hl, if_true, Out.andThen_norm, brows_app]
          rfl
      have h1 : ∀ K : List DC → Out, Out.andThen (if decide ((i : Int) > 0) = true then
            if 0 ≤ (IntKind.i64.wrap ((i : Int) - (1 : Int))) ∧ (IntKind.i64.wrap ((i : Int) - (1 : Int))) < (ts.length : Int) then
              (r_impl_Apart [DC.i ((((ts.map TToken.enc).getD (IntKind.i64.wrap ((i : Int) - (1 : Int))).toNat []).getD 0 d0).ii), DC.s ((((ts.map TToken.enc).getD (IntKind.i64.wrap ((i : Int) - (1 : Int))).toNat []).getD 1 d0).ss), DC.i ((((ts.map TToken.enc).getD (IntKind.i64.wrap ((i : Int) - (1 : Int))).toNat []).getD 2 d0).ii), DC.i ts[i].kind, DC.s ts[i].text, DC.i ts[i].at']).bindR fun r3 =>
              .norm [DC.sl (ts.map TToken.enc), DC.sl (brows o), DC.sl (ts.map TToken.enc), DC.i (ts.length : Int), DC.i (i : Int), DC.b ((r3.getD 0 d0).bb), DC.i ts[i].kind, DC.s ts[i].text, DC.i ts[i].at']
            else
              .fail
          else
            .norm [DC.sl (ts.map TToken.enc), DC.sl (brows o), DC.sl (ts.map TToken.enc), DC.i (ts.length : Int), DC.i (i : Int), DC.b false, DC.i ts[i].kind, DC.s ts[i].text, DC.i ts[i].at']) K = K [.sl (ts.map TToken.enc), .sl (brows o), .sl (ts.map TToken.enc), .i (ts.length : Int), .i (i : Int), .b (decide (0 < i) && apartT (ts.getD (i - 1) ⟨0, [], 0⟩).kind ts[i].kind ts[i].text), .i ts[i].kind, .s ts[i].text, .i ts[i].at'] := by
        intro K
        by_cases h0 : 0 < i
        · have dz : decide ((i : Int) > 0) = true := decide_eq_true (by omega)
          have dz' : decide (0 < i) = true := decide_eq_true h0
          have wz : IntKind.i64.wrap ((i : Int) - 1) = ((i - 1 : Nat) : Int) := by rw [wrap64 (by omega) (by omega)]; omega
          have hi1 : i - 1 < ts.length := by omega
          have c1 : 0 ≤ ((i - 1 : Nat) : Int) ∧ ((i - 1 : Nat) : Int) < (ts.length : Int) := by omega
          simp only [dz, dz', wz, c1, and_self, if_true, Int.toNat_natCast, map_getD hi1, TToken.enc_eq, List.getD_cons_zero, List.getD_cons_succ, DC.ii_i, DC.ss_s, impl_Apart_ok, Out.bindR_ret, Out.andThen_norm, DC.bb_b, Bool.true_and, getD_tok hi1]
        · have dz : decide ((i : Int) > 0) = false := decide_eq_false (by omega)
          have dz' : decide (0 < i) = false := decide_eq_false h0
          simp only [dz, dz', Bool.false_eq_true, if_false, Out.andThen_norm, Bool.false_and]
      rw [h1]
      simp only [List.getD_cons_zero, List.getD_cons_succ, DC.bb_b, DC.ii_i, DC.ss_s, DC.ll_sl]
      rw [h2]
      have hg : (if (decide (0 < i) && apartT (ts.getD (i - 1) ⟨0, [], 0⟩).kind ts[i].kind ts[i].text) = true then [32] else []) = gap ts i := by
        unfold gap
        rw [getD_tok hi]
        simp
      rw [hg]
      simp only [List.getD_cons_zero, List.getD_cons_succ, DC.bb_b, DC.ii_i, DC.ss_s, DC.ll_sl, impl_TokenText _ _ _ htx, Out.bindR_ret, brows_eq]
      have hl : (brows (o ++ gap ts i)).length + (brows (tokText ts[i].kind ts[i].text)).length < LIM := L _ (by rw [brows_len, brows_len, List.length_append]; omega)
      rw [if_pos hl, ← brows_app]
      simp only [Out.andThenB_norm, List.getD_cons_zero, List.getD_cons_succ, DC.ii_i, DC.ll_sl, w]

/-- What both leave: nothing where a token is wrong; else all of it, which the one checks as it goes, the other at the end. -/
theorem short_rel (ts : List TToken) : ∀ (l : List TToken) (i : Nat) (o : List UInt8), (goE (fImpl ts) (fun o => .ex 0 [.sl (brows o)]) i o l = .ret [.s []] ∧ goE (fSpec ts) (fun o => .ex 0 [.sl (brows o)]) i o l = .ret [.s []]) ∨
    ∃ q : List UInt8, o.length ≤ q.length ∧ goE (fImpl ts) (fun o => .ex 0 [.sl (brows o)]) i o l = .ex 0 [.sl (brows q)] ∧ (o.length ≤ 12000 → goE (fSpec ts) (fun o => .ex 0 [.sl (brows o)]) i o l = if q.length ≤ 12000 then .ex 0 [.sl (brows q)] else .ret [.s []])
  | [], i, o => .inr ⟨o, Nat.le_refl _, rfl, fun h => by rw [if_pos h]; rfl⟩
  | t :: l, i, o => by
    rw [goE, goE]
    unfold fImpl fSpec
    cases hok : tokOk t.kind t.text with
    | false => exact .inl ⟨rfl, rfl⟩
    | true =>
      simp only [if_true]
      have ih := short_rel ts l (i + 1) (o ++ gap ts i ++ tokText t.kind t.text)
      have hlen : o.length ≤ (o ++ gap ts i ++ tokText t.kind t.text).length := by rw [List.length_append, List.length_append]; omega
      rcases ih with ⟨h1, h2⟩ | ⟨q, hq, h1, h2⟩
      · left
        refine ⟨h1, ?_⟩
        by_cases hle : (o ++ gap ts i ++ tokText t.kind t.text).length ≤ 12000
        · rw [if_pos hle]; exact h2
        · rw [if_neg hle]
      · right
        refine ⟨q, Nat.le_trans hlen hq, h1, fun _ => ?_⟩
        by_cases hle : (o ++ gap ts i ++ tokText t.kind t.text).length ≤ 12000
        · rw [if_pos hle]; exact h2 hle
        · rw [if_neg hle, if_neg (by omega)]

theorem short_both (ts : List TToken) (hw : DC.wt (.sl (ts.map TToken.enc)) ≤ 1048576) : ∃ q : List UInt8, r_spec_ShortText [.sl (ts.map TToken.enc)] = .ret [.s q] ∧ r_impl_ShortText [.sl (ts.map TToken.enc)] = .ret [.s q] := by
  have ht : ∀ t ∈ ts, t.text.length ≤ 1048576 := fun t h => by
    rw [DC.wt] at hw
    have := wtV_mem (List.mem_map_of_mem (f := TToken.enc) h)
    have e : wtL t.enc = t.text.length := by rw [TToken.enc_eq]; simp [wtL, DC.wt]
    omega
  rw [eq_spec_ShortText, eq_impl_ShortText]
  simp only [E_spec_ShortText, E_impl_ShortText, List.getD_cons_zero, DC.ll_sl, List.length_map]
  rcases Nat.lt_or_ge 2500 ts.length with h | h
  · have e : decide ((ts.length : Int) > 2500) = true := decide_eq_true (by omega)
    exact ⟨[], by rw [e]; rfl, by rw [e]; rfl⟩
  · have e : decide ((ts.length : Int) > 2500) = false := decide_eq_false (by omega)
    simp only [e, Bool.false_eq_true, if_false, spec_Short_loop ts h ht, impl_Short_loop ts h ht]
    rcases short_rel ts ts 0 [] with ⟨h1, h2⟩ | ⟨q, _, h1, h2⟩
    · rw [h1, h2]
      exact ⟨[], rfl, rfl⟩
    · rw [h1, h2 (by simp)]
      by_cases hq : q.length ≤ 12000
      · have e2 : decide (((brows q).length : Int) > 12000) = false := by rw [brows_len]; exact decide_eq_false (by omega)
        rw [if_pos hq]
        refine ⟨q, ?_, ?_⟩
        · simp only [Out.andThenB_ex, if_true, List.getD_cons_zero, DC.ll_sl, rowBytes_rows]
        · simp only [Out.andThenB_ex, if_true, List.getD_cons_zero, DC.ll_sl, e2, Bool.false_eq_true, if_false, rowBytes_rows]
      · have e2 : decide (((brows q).length : Int) > 12000) = true := by rw [brows_len]; exact decide_eq_true (by omega)
        rw [if_neg hq]
        refine ⟨[], rfl, ?_⟩
        simp only [Out.andThenB_ex, if_true, List.getD_cons_zero, DC.ll_sl, e2]
end Go.Proofs.YtljggmbgbnmapaaDoorV

/- What the helpers of the laws do (written by a program). -/
namespace Go.Proofs.YtljggmbgbnmapaaDoorV
open Go
set_option linter.unusedVariables false
set_option linter.unusedSimpArgs false
set_option maxRecDepth 100000
theorem szS_String (ns : List (List UInt8)) (ok : (DC.sl (ns.map S1)).ok) (left : Int) (h0 : 0 ≤ left) (h1 : left ≤ 1048576) : r_laws_szStringS [.sl (ns.map S1), .i left] = .ret [.i (szR left (DC.wt (.sl (ns.map S1))))] := by
  rw [DC.ok, List.length_map] at ok
  obtain ⟨hl, ok⟩ := ok
  rw [eq_laws_szStringS]
  simp only [E_laws_szStringS, List.getD_cons_zero, List.getD_cons_succ, DC.bb_b, DC.ii_i, DC.ss_s, DC.ll_sl]
  refine szS_all hl (fun i hi left h0 h1 => ?_) (fun left => ?_) h0 h1
  · have hn := okV_mem ok (S1 ns[i]) (List.mem_map_of_mem (List.getElem_mem hi))
    simp only [S1, okL, DC.ok] at hn
    have hw : IntKind.i64.wrap (left - (ns[i].length : Int)) = left - (ns[i].length : Int) := wrap64 (by omega) (by omega)
    have hc1 : (i : Int) < (ns.length : Int) := by omega
    simp only [E_laws_szStringSL1, List.getD_cons_zero, List.getD_cons_succ, DC.bb_b, DC.ii_i, DC.ss_s, DC.ll_sl, Int.toNat_natCast, List.length_map, map_getD hi, S1, wtL, DC.wt, hw]
    by_cases hc : left < (ns[i].length : Int)
    · simp [hi, hc1, hc, show left - (ns[i].length : Int) < 0 by omega]
    · simp [hi, hc1, hc, show ¬ left - (ns[i].length : Int) < 0 by omega, wrap_succ hi hl]
  · simp [E_laws_szStringSL1]
theorem toS_String (ns : List (List UInt8)) (hl : ns.length ≤ 1048576) : r_laws_toStringS [.sl (ns.map S1)] = .ret [.sl (ns.map S1)] := by
  rw [eq_laws_toStringS]
  simp only [E_laws_toStringS, List.getD_cons_zero, List.getD_cons_succ, DC.bb_b, DC.ii_i, DC.ss_s, DC.ll_sl]
  rw [if_pos ⟨by omega, by rw [List.length_map]; exact lim_of hl, trivial, by omega, by omega⟩, Int.toNat_natCast, List.length_map, show (0 : Int) = ((0 : Nat) : Int) from rfl, toS_loop hl (fun i hi cur h1 h2 => ?_) (fun cur => ?_)]
  · rfl
  · have hc1 : (i : Int) < (ns.length : Int) := by omega
    simp only [E_laws_toStringSL1, List.getD_cons_zero, List.getD_cons_succ, DC.bb_b, DC.ii_i, DC.ss_s, DC.ll_sl, Int.toNat_natCast, List.length_map, map_getD hi, h1, h2, S1]
    simp [hi, hc1, wrap_succ hi (show ns.length ≤ 9223372036854775807 by omega), setRunD]
  · simp [E_laws_toStringSL1]
theorem eqS_String (ns : List (List UInt8)) (hl : ns.length ≤ 1048576) : r_laws_eqStringS [.sl (ns.map S1), .sl (ns.map S1)] = .ret [.b true] := by
  rw [eq_laws_eqStringS]
  simp only [E_laws_eqStringS, List.getD_cons_zero, List.getD_cons_succ, DC.bb_b, DC.ii_i, DC.ss_s, DC.ll_sl]
  refine eqS_all (fun i hi => ?_) ?_
  · rw [List.length_map] at hi
    have hc1 : (i : Int) < (ns.length : Int) := by omega
    simp only [E_laws_eqStringSL1, List.getD_cons_zero, List.getD_cons_succ, DC.bb_b, DC.ii_i, DC.ss_s, DC.ll_sl, Int.toNat_natCast, List.length_map, map_getD hi, S1]
    simp [hi, hc1, wrap_succ hi (show ns.length ≤ 9223372036854775807 by omega)]
  · simp [E_laws_eqStringSL1]
theorem wsum_Token (v : TToken) : wtL (TToken.enc v) = v.text.length := by
  simp only [TToken.enc_eq, wtL, DC.wt]
  try omega
theorem sz_Token (v : TToken) : okL (TToken.enc v) → ∀ left : Int, 0 ≤ left → left ≤ 1048576 → r_laws_szToken [.i v.kind, .s v.text, .i v.at', .i left] = .ret [.i (szR left (wtL (TToken.enc v)))] := by
  intro ok left h0 h1
  rw [TToken.enc_eq] at ok
  simp only [okL] at ok
  rw [eq_laws_szToken]
  simp only [E_laws_szToken, List.getD_cons_zero, List.getD_cons_succ, DC.bb_b, DC.ii_i, DC.ss_s, DC.ll_sl]
  rw [wsum_Token]
  have b0 : v.text.length ≤ 9223372036854775807 := by simpa only [DC.ok] using ok.2.1
  rw [show IntKind.i64.wrap (left - (v.text.length : Int)) = left - (v.text.length : Int) from wrap64 (by omega) (by omega)]
  by_cases c0 : left < ((v.text.length : Nat) : Int)
  · have c0' : left - ((v.text.length : Nat) : Int) < 0 := by omega
    simp only [c0', decide_true, if_true]
    try rw [szR_lt (by omega)]
  have c0' : ¬ left - ((v.text.length : Nat) : Int) < 0 := by omega
  simp only [c0', decide_false, Bool.false_eq_true, if_false]
  first
  | done
  | rw [show szR left (v.text.length) = (left - ((v.text.length : Nat) : Int)) from (szR_ge (by omega)).trans (by omega)]
theorem szS_Token' (vs : List TToken) (hs : ∀ v ∈ vs, okL (TToken.enc v) → ∀ left : Int, 0 ≤ left → left ≤ 1048576 → r_laws_szToken [.i v.kind, .s v.text, .i v.at', .i left] = .ret [.i (szR left (wtL (TToken.enc v)))]) (ok : (DC.sl (vs.map TToken.enc)).ok) (left : Int) (h0 : 0 ≤ left) (h1 : left ≤ 1048576) : r_laws_szTokenS [.sl (vs.map TToken.enc), .i left] = .ret [.i (szR left (DC.wt (.sl (vs.map TToken.enc))))] := by
  rw [DC.ok, List.length_map] at ok
  obtain ⟨hl, ok⟩ := ok
  rw [eq_laws_szTokenS]
  simp only [E_laws_szTokenS, List.getD_cons_zero, List.getD_cons_succ, DC.bb_b, DC.ii_i, DC.ss_s, DC.ll_sl]
  refine szS_all hl (fun i hi left h0 h1 => ?_) (fun left => ?_) h0 h1
  · have key := hs vs[i] (List.getElem_mem hi) (okV_mem ok _ (List.mem_map_of_mem (List.getElem_mem hi))) left h0 h1
    generalize wtL (TToken.enc vs[i]) = w at key ⊢
    have hc1 : (i : Int) < (vs.length : Int) := by omega
    simp only [E_laws_szTokenSL1, List.getD_cons_zero, List.getD_cons_succ, DC.bb_b, DC.ii_i, DC.ss_s, DC.ll_sl, Int.toNat_natCast, List.length_map, map_getD hi, TToken.enc_eq, key, Out.bindR_ret]
    by_cases hc : left < (w : Int)
    · simp [hi, hc1, hc, szR_lt hc]
    · simp [hi, hc1, hc, szR_ge hc, show ¬ left - (w : Int) < 0 by omega, wrap_succ hi hl]
  · simp [E_laws_szTokenSL1]
theorem szS_Token (vs : List TToken) (ok : (DC.sl (vs.map TToken.enc)).ok) (left : Int) (h0 : 0 ≤ left) (h1 : left ≤ 1048576) : r_laws_szTokenS [.sl (vs.map TToken.enc), .i left] = .ret [.i (szR left (DC.wt (.sl (vs.map TToken.enc))))] := szS_Token' vs (fun v _ => sz_Token v) ok left h0 h1
theorem to_Token (v : TToken) : wtL (TToken.enc v) ≤ 1048576 → r_laws_toToken [.i v.kind, .s v.text, .i v.at'] = .ret (TToken.enc v) := by
  intro hw
  rw [wsum_Token] at hw
  rw [eq_laws_toToken]
  simp only [E_laws_toToken, List.getD_cons_zero, List.getD_cons_succ, DC.bb_b, DC.ii_i, DC.ss_s, DC.ll_sl]
  rw [TToken.enc_eq]
theorem toS_Token' (vs : List TToken) (hs : ∀ v ∈ vs, wtL (TToken.enc v) ≤ 1048576 → r_laws_toToken [.i v.kind, .s v.text, .i v.at'] = .ret (TToken.enc v)) (hw : DC.wt (.sl (vs.map TToken.enc)) ≤ 1048576) : r_laws_toTokenS [.sl (vs.map TToken.enc)] = .ret [.sl (vs.map TToken.enc)] := by
  rw [DC.wt, List.length_map] at hw
  have hl : vs.length ≤ 1048576 := by omega
  rw [eq_laws_toTokenS]
  simp only [E_laws_toTokenS, List.getD_cons_zero, List.getD_cons_succ, DC.bb_b, DC.ii_i, DC.ss_s, DC.ll_sl]
  rw [if_pos ⟨by omega, by rw [List.length_map]; exact lim_of hl, trivial, by omega, by omega⟩, Int.toNat_natCast, List.length_map, show (0 : Int) = ((0 : Nat) : Int) from rfl, toS_loop hl (fun i hi cur h1 h2 => ?_) (fun cur => ?_)]
  · rfl
  · have key := hs vs[i] (List.getElem_mem hi) (by have := wtV_mem (List.mem_map_of_mem (f := TToken.enc) (List.getElem_mem hi)); omega)
    have hc1 : (i : Int) < (vs.length : Int) := by omega
    simp only [E_laws_toTokenSL1, List.getD_cons_zero, List.getD_cons_succ, DC.bb_b, DC.ii_i, DC.ss_s, DC.ll_sl, Int.toNat_natCast, List.length_map, map_getD hi, h1, h2, TToken.enc_eq] at key ⊢
    simp only [key, List.getD_cons_zero, List.getD_cons_succ, DC.bb_b, DC.ii_i, DC.ss_s, DC.ll_sl, Out.bindR_ret]
    simp [hi, hc1, wrap_succ hi (show vs.length ≤ 9223372036854775807 by omega), setRunD]
  · simp [E_laws_toTokenSL1]
theorem toS_Token (vs : List TToken) (hw : DC.wt (.sl (vs.map TToken.enc)) ≤ 1048576) : r_laws_toTokenS [.sl (vs.map TToken.enc)] = .ret [.sl (vs.map TToken.enc)] := toS_Token' vs (fun v _ => to_Token v) hw
theorem eq_Token (v : TToken) : wtL (TToken.enc v) ≤ 1048576 → r_laws_eqToken [.i v.kind, .s v.text, .i v.at', .i v.kind, .s v.text, .i v.at'] = .ret [.b true] := by
  intro hw
  rw [wsum_Token] at hw
  rw [eq_laws_eqToken]
  simp only [E_laws_eqToken, List.getD_cons_zero, List.getD_cons_succ, DC.bb_b, DC.ii_i, DC.ss_s, DC.ll_sl, bne_self_eq_false, beq_self_eq_true, Bool.not_true, Bool.false_eq_true, if_false]
theorem eqS_Token' (vs : List TToken) (hs : ∀ v ∈ vs, wtL (TToken.enc v) ≤ 1048576 → r_laws_eqToken [.i v.kind, .s v.text, .i v.at', .i v.kind, .s v.text, .i v.at'] = .ret [.b true]) (hw : DC.wt (.sl (vs.map TToken.enc)) ≤ 1048576) : r_laws_eqTokenS [.sl (vs.map TToken.enc), .sl (vs.map TToken.enc)] = .ret [.b true] := by
  rw [DC.wt, List.length_map] at hw
  have hl : vs.length ≤ 1048576 := by omega
  rw [eq_laws_eqTokenS]
  simp only [E_laws_eqTokenS, List.getD_cons_zero, List.getD_cons_succ, DC.bb_b, DC.ii_i, DC.ss_s, DC.ll_sl]
  refine eqS_all (fun i hi => ?_) ?_
  · rw [List.length_map] at hi
    have key := hs vs[i] (List.getElem_mem hi) (by have := wtV_mem (List.mem_map_of_mem (f := TToken.enc) (List.getElem_mem hi)); omega)
    have hc1 : (i : Int) < (vs.length : Int) := by omega
    simp only [E_laws_eqTokenSL1, List.getD_cons_zero, List.getD_cons_succ, DC.bb_b, DC.ii_i, DC.ss_s, DC.ll_sl, Int.toNat_natCast, List.length_map, map_getD hi, TToken.enc_eq] at key ⊢
    simp only [key, List.getD_cons_zero, List.getD_cons_succ, DC.bb_b, DC.ii_i, DC.ss_s, DC.ll_sl, Out.bindR_ret]
    simp [hi, hc1, wrap_succ hi (show vs.length ≤ 9223372036854775807 by omega)]
  · simp [E_laws_eqTokenSL1]
theorem eqS_Token (vs : List TToken) (hw : DC.wt (.sl (vs.map TToken.enc)) ≤ 1048576) : r_laws_eqTokenS [.sl (vs.map TToken.enc), .sl (vs.map TToken.enc)] = .ret [.b true] := eqS_Token' vs (fun v _ => eq_Token v) hw
theorem wsum_Json (v : TJson) : wtL (TJson.enc v) = v.text.length + DC.wt (.sl (v.items.map TJson.enc)) + DC.wt (.sl (v.names.map S1)) := by
  simp only [TJson.enc_eq, wtL, DC.wt]
  try omega
theorem szS_Json' (vs : List TJson) (hs : ∀ v ∈ vs, okL (TJson.enc v) → ∀ left : Int, 0 ≤ left → left ≤ 1048576 → r_laws_szJson [.i v.kind, .s v.text, .sl (v.items.map TJson.enc), .sl (v.names.map S1), .i left] = .ret [.i (szR left (wtL (TJson.enc v)))]) (ok : (DC.sl (vs.map TJson.enc)).ok) (left : Int) (h0 : 0 ≤ left) (h1 : left ≤ 1048576) : r_laws_szJsonS [.sl (vs.map TJson.enc), .i left] = .ret [.i (szR left (DC.wt (.sl (vs.map TJson.enc))))] := by
  rw [DC.ok, List.length_map] at ok
  obtain ⟨hl, ok⟩ := ok
  rw [eq_laws_szJsonS]
  simp only [E_laws_szJsonS, List.getD_cons_zero, List.getD_cons_succ, DC.bb_b, DC.ii_i, DC.ss_s, DC.ll_sl]
  refine szS_all hl (fun i hi left h0 h1 => ?_) (fun left => ?_) h0 h1
  · have key := hs vs[i] (List.getElem_mem hi) (okV_mem ok _ (List.mem_map_of_mem (List.getElem_mem hi))) left h0 h1
    generalize wtL (TJson.enc vs[i]) = w at key ⊢
    have hc1 : (i : Int) < (vs.length : Int) := by omega
    simp only [E_laws_szJsonSL1, List.getD_cons_zero, List.getD_cons_succ, DC.bb_b, DC.ii_i, DC.ss_s, DC.ll_sl, Int.toNat_natCast, List.length_map, map_getD hi, TJson.enc_eq, key, Out.bindR_ret]
    by_cases hc : left < (w : Int)
    · simp [hi, hc1, hc, szR_lt hc]
    · simp [hi, hc1, hc, szR_ge hc, show ¬ left - (w : Int) < 0 by omega, wrap_succ hi hl]
  · simp [E_laws_szJsonSL1]
theorem sz_Json (v : TJson) : okL (TJson.enc v) → ∀ left : Int, 0 ≤ left → left ≤ 1048576 → r_laws_szJson [.i v.kind, .s v.text, .sl (v.items.map TJson.enc), .sl (v.names.map S1), .i left] = .ret [.i (szR left (wtL (TJson.enc v)))] := by
  induction v using TJson.ind with | h v ih =>
  intro ok left h0 h1
  rw [TJson.enc_eq] at ok
  simp only [okL] at ok
  rw [eq_laws_szJson]
  simp only [E_laws_szJson, List.getD_cons_zero, List.getD_cons_succ, DC.bb_b, DC.ii_i, DC.ss_s, DC.ll_sl]
  rw [wsum_Json]
  have b0 : v.text.length ≤ 9223372036854775807 := by simpa only [DC.ok] using ok.2.1
  rw [show IntKind.i64.wrap (left - (v.text.length : Int)) = left - (v.text.length : Int) from wrap64 (by omega) (by omega)]
  by_cases c0 : left < ((v.text.length : Nat) : Int)
  · have c0' : left - ((v.text.length : Nat) : Int) < 0 := by omega
    simp only [c0', decide_true, if_true]
    try rw [szR_lt (by omega)]
  have c0' : ¬ left - ((v.text.length : Nat) : Int) < 0 := by omega
  simp only [c0', decide_false, Bool.false_eq_true, if_false]
  rw [szS_Json' v.items (fun x hx => ih x hx) ok.2.2.1 ((left - ((v.text.length : Nat) : Int))) (by omega) (by omega)]
  simp only [Out.bindR_ret, List.getD_cons_zero, List.getD_cons_succ, DC.bb_b, DC.ii_i, DC.ss_s, DC.ll_sl]
  by_cases c1 : (left - ((v.text.length : Nat) : Int)) < ((DC.wt (.sl (v.items.map TJson.enc)) : Nat) : Int)
  · rw [szR_lt c1]
    simp only [show (-1 : Int) < 0 by omega, decide_true, if_true]
    try rw [szR_lt (by omega)]
  rw [szR_ge c1]
  have c1' : ¬ (left - ((v.text.length : Nat) : Int)) - ((DC.wt (.sl (v.items.map TJson.enc)) : Nat) : Int) < 0 := by omega
  simp only [c1', decide_false, Bool.false_eq_true, if_false]
  rw [szS_String v.names ok.2.2.2.1 (((left - ((v.text.length : Nat) : Int)) - ((DC.wt (.sl (v.items.map TJson.enc)) : Nat) : Int))) (by omega) (by omega)]
  simp only [Out.bindR_ret, List.getD_cons_zero, List.getD_cons_succ, DC.bb_b, DC.ii_i, DC.ss_s, DC.ll_sl]
  by_cases c2 : ((left - ((v.text.length : Nat) : Int)) - ((DC.wt (.sl (v.items.map TJson.enc)) : Nat) : Int)) < ((DC.wt (.sl (v.names.map S1)) : Nat) : Int)
  · rw [szR_lt c2]
    simp only [show (-1 : Int) < 0 by omega, decide_true, if_true]
    try rw [szR_lt (by omega)]
  rw [szR_ge c2]
  have c2' : ¬ ((left - ((v.text.length : Nat) : Int)) - ((DC.wt (.sl (v.items.map TJson.enc)) : Nat) : Int)) - ((DC.wt (.sl (v.names.map S1)) : Nat) : Int) < 0 := by omega
  simp only [c2', decide_false, Bool.false_eq_true, if_false]
  first
  | done
  | rw [show szR left (v.text.length + DC.wt (.sl (v.items.map TJson.enc)) + DC.wt (.sl (v.names.map S1))) = (((left - ((v.text.length : Nat) : Int)) - ((DC.wt (.sl (v.items.map TJson.enc)) : Nat) : Int)) - ((DC.wt (.sl (v.names.map S1)) : Nat) : Int)) from (szR_ge (by omega)).trans (by omega)]
theorem szS_Json (vs : List TJson) (ok : (DC.sl (vs.map TJson.enc)).ok) (left : Int) (h0 : 0 ≤ left) (h1 : left ≤ 1048576) : r_laws_szJsonS [.sl (vs.map TJson.enc), .i left] = .ret [.i (szR left (DC.wt (.sl (vs.map TJson.enc))))] := szS_Json' vs (fun v _ => sz_Json v) ok left h0 h1
theorem toS_Json' (vs : List TJson) (hs : ∀ v ∈ vs, wtL (TJson.enc v) ≤ 1048576 → r_laws_toJson [.i v.kind, .s v.text, .sl (v.items.map TJson.enc), .sl (v.names.map S1)] = .ret (TJson.enc v)) (hw : DC.wt (.sl (vs.map TJson.enc)) ≤ 1048576) : r_laws_toJsonS [.sl (vs.map TJson.enc)] = .ret [.sl (vs.map TJson.enc)] := by
  rw [DC.wt, List.length_map] at hw
  have hl : vs.length ≤ 1048576 := by omega
  rw [eq_laws_toJsonS]
  simp only [E_laws_toJsonS, List.getD_cons_zero, List.getD_cons_succ, DC.bb_b, DC.ii_i, DC.ss_s, DC.ll_sl]
  rw [if_pos ⟨by omega, by rw [List.length_map]; exact lim_of hl, trivial, by omega, by omega⟩, Int.toNat_natCast, List.length_map, show (0 : Int) = ((0 : Nat) : Int) from rfl, toS_loop hl (fun i hi cur h1 h2 => ?_) (fun cur => ?_)]
  · rfl
  · have key := hs vs[i] (List.getElem_mem hi) (by have := wtV_mem (List.mem_map_of_mem (f := TJson.enc) (List.getElem_mem hi)); omega)
    have hc1 : (i : Int) < (vs.length : Int) := by omega
    simp only [E_laws_toJsonSL1, List.getD_cons_zero, List.getD_cons_succ, DC.bb_b, DC.ii_i, DC.ss_s, DC.ll_sl, Int.toNat_natCast, List.length_map, map_getD hi, h1, h2, TJson.enc_eq] at key ⊢
    simp only [key, List.getD_cons_zero, List.getD_cons_succ, DC.bb_b, DC.ii_i, DC.ss_s, DC.ll_sl, Out.bindR_ret]
    simp [hi, hc1, wrap_succ hi (show vs.length ≤ 9223372036854775807 by omega), setRunD]
  · simp [E_laws_toJsonSL1]
theorem to_Json (v : TJson) : wtL (TJson.enc v) ≤ 1048576 → r_laws_toJson [.i v.kind, .s v.text, .sl (v.items.map TJson.enc), .sl (v.names.map S1)] = .ret (TJson.enc v) := by
  induction v using TJson.ind with | h v ih =>
  intro hw
  rw [wsum_Json] at hw
  rw [eq_laws_toJson]
  simp only [E_laws_toJson, List.getD_cons_zero, List.getD_cons_succ, DC.bb_b, DC.ii_i, DC.ss_s, DC.ll_sl]
  rw [toS_Json' v.items (fun x hx => ih x hx) (by omega)]
  simp only [Out.bindR_ret, List.getD_cons_zero, List.getD_cons_succ, DC.bb_b, DC.ii_i, DC.ss_s, DC.ll_sl]
  rw [toS_String v.names (by have h := hw; simp only [DC.wt, List.length_map] at h; omega)]
  simp only [Out.bindR_ret, List.getD_cons_zero, List.getD_cons_succ, DC.bb_b, DC.ii_i, DC.ss_s, DC.ll_sl]
  rw [TJson.enc_eq]
theorem toS_Json (vs : List TJson) (hw : DC.wt (.sl (vs.map TJson.enc)) ≤ 1048576) : r_laws_toJsonS [.sl (vs.map TJson.enc)] = .ret [.sl (vs.map TJson.enc)] := toS_Json' vs (fun v _ => to_Json v) hw
theorem eqS_Json' (vs : List TJson) (hs : ∀ v ∈ vs, wtL (TJson.enc v) ≤ 1048576 → r_laws_eqJson [.i v.kind, .s v.text, .sl (v.items.map TJson.enc), .sl (v.names.map S1), .i v.kind, .s v.text, .sl (v.items.map TJson.enc), .sl (v.names.map S1)] = .ret [.b true]) (hw : DC.wt (.sl (vs.map TJson.enc)) ≤ 1048576) : r_laws_eqJsonS [.sl (vs.map TJson.enc), .sl (vs.map TJson.enc)] = .ret [.b true] := by
  rw [DC.wt, List.length_map] at hw
  have hl : vs.length ≤ 1048576 := by omega
  rw [eq_laws_eqJsonS]
  simp only [E_laws_eqJsonS, List.getD_cons_zero, List.getD_cons_succ, DC.bb_b, DC.ii_i, DC.ss_s, DC.ll_sl]
  refine eqS_all (fun i hi => ?_) ?_
  · rw [List.length_map] at hi
    have key := hs vs[i] (List.getElem_mem hi) (by have := wtV_mem (List.mem_map_of_mem (f := TJson.enc) (List.getElem_mem hi)); omega)
    have hc1 : (i : Int) < (vs.length : Int) := by omega
    simp only [E_laws_eqJsonSL1, List.getD_cons_zero, List.getD_cons_succ, DC.bb_b, DC.ii_i, DC.ss_s, DC.ll_sl, Int.toNat_natCast, List.length_map, map_getD hi, TJson.enc_eq] at key ⊢
    simp only [key, List.getD_cons_zero, List.getD_cons_succ, DC.bb_b, DC.ii_i, DC.ss_s, DC.ll_sl, Out.bindR_ret]
    simp [hi, hc1, wrap_succ hi (show vs.length ≤ 9223372036854775807 by omega)]
  · simp [E_laws_eqJsonSL1]
theorem eq_Json (v : TJson) : wtL (TJson.enc v) ≤ 1048576 → r_laws_eqJson [.i v.kind, .s v.text, .sl (v.items.map TJson.enc), .sl (v.names.map S1), .i v.kind, .s v.text, .sl (v.items.map TJson.enc), .sl (v.names.map S1)] = .ret [.b true] := by
  induction v using TJson.ind with | h v ih =>
  intro hw
  rw [wsum_Json] at hw
  rw [eq_laws_eqJson]
  simp only [E_laws_eqJson, List.getD_cons_zero, List.getD_cons_succ, DC.bb_b, DC.ii_i, DC.ss_s, DC.ll_sl, bne_self_eq_false, beq_self_eq_true, Bool.not_true, Bool.false_eq_true, if_false]
  rw [eqS_Json' v.items (fun x hx => ih x hx) (by omega)]
  simp only [Out.bindR_ret, List.getD_cons_zero, List.getD_cons_succ, DC.bb_b, DC.ii_i, DC.ss_s, DC.ll_sl, bne_self_eq_false, beq_self_eq_true, Bool.not_true, Bool.false_eq_true, if_false]
  rw [eqS_String v.names (by have h := hw; simp only [DC.wt, List.length_map] at h; omega)]
  simp only [Out.bindR_ret, List.getD_cons_zero, List.getD_cons_succ, DC.bb_b, DC.ii_i, DC.ss_s, DC.ll_sl, bne_self_eq_false, beq_self_eq_true, Bool.not_true, Bool.false_eq_true, if_false]
theorem eqS_Json (vs : List TJson) (hw : DC.wt (.sl (vs.map TJson.enc)) ≤ 1048576) : r_laws_eqJsonS [.sl (vs.map TJson.enc), .sl (vs.map TJson.enc)] = .ret [.b true] := eqS_Json' vs (fun v _ => eq_Json v) hw
end Go.Proofs.YtljggmbgbnmapaaDoorV

/- The laws' inputs are the typed data (written by a program). -/
namespace Go.Proofs.YtljggmbgbnmapaaDoorV
open Go
set_option linter.unusedVariables false
set_option linter.unusedSimpArgs false

mutual
theorem wfc_ok {ty : Nat → Option TI} : ∀ {t : CT} {c : DC}, WfC ty t c → c.ok
  | _, _, .b x => by simp [DC.ok]
  | _, _, .i k n _ _ => by simp [DC.ok]
  | _, _, .s l h => by rw [DC.ok]; simpa [maxLen] using h
  | _, _, .sl e te l h1 h2 h3 => by rw [DC.ok]; exact ⟨by simpa [maxLen] using h2, wfv_ok h3⟩
  | _, _, .nil e => by rw [DC.ok]; exact ⟨by simp, by rw [okV]; trivial⟩
theorem wfl_ok {ty : Nat → Option TI} : ∀ {ts : List CT} {x : List DC}, WfL ty ts x → okL x
  | _, _, .nil => by rw [okL]; trivial
  | _, _, .cons t ts x xs h1 h2 => by rw [okL]; exact ⟨wfc_ok h1, wfl_ok h2⟩
theorem wfv_ok {ty : Nat → Option TI} : ∀ {ts : List CT} {l : List (List DC)}, WfV ty ts l → okV l
  | _, _, .nil ts => by rw [okV]; trivial
  | _, _, .cons ts x l h1 h2 => by rw [okV]; exact ⟨wfl_ok h1, wfv_ok h2⟩
end

theorem decV {α : Type} {ty : Nat → Option TI} {enc : α → List DC} {cts : List CT} : ∀ {l : List (List DC)}, (∀ x ∈ l, WfL ty cts x → ∃ v, x = enc v) → WfV ty cts l → ∃ vs : List α, l = vs.map enc
  | [], _, _ => ⟨[], rfl⟩
  | x :: l, h, hw => by
    cases hw with
    | cons ts x l h1 h2 =>
      obtain ⟨v, hv⟩ := h x (by simp) h1
      obtain ⟨vs, hvs⟩ := decV (fun y hy => h y (by simp [hy])) h2
      exact ⟨v :: vs, by rw [List.map_cons, hv, hvs]⟩
theorem decC {α : Type} {ty : Nat → Option TI} {enc : α → List DC} {e : Nat} {te : TI} {c : DC} (hte : ty e = some te) (h : ∀ l, c = .sl l → ∀ x ∈ l, WfL ty te.cts x → ∃ v, x = enc v) (hw : WfC ty (.sl e) c) : ∃ vs : List α, c = .sl (vs.map enc) := by
  cases hw with
  | sl e te' l h1 h2 h3 =>
    rw [hte] at h1
    obtain rfl := Option.some.inj h1
    obtain ⟨vs, hvs⟩ := decV (h l rfl) h3
    exact ⟨vs, by rw [hvs]⟩
  | nil => exact ⟨[], rfl⟩
theorem dec_i {ty : Nat → Option TI} {k : IntKind} {c : DC} (h : WfC ty (.i k) c) : ∃ n, c = .i n ∧ k.min ≤ n ∧ n ≤ k.max := by
  cases h with
  | i k n h1 h2 => exact ⟨n, rfl, h1, h2⟩
theorem dec_b {ty : Nat → Option TI} {c : DC} (h : WfC ty .b c) : ∃ n, c = .b n := by cases h; exact ⟨_, rfl⟩
theorem dec_s {ty : Nat → Option TI} {c : DC} (h : WfC ty .s c) : ∃ n, c = .s n := by cases h; exact ⟨_, rfl⟩
theorem dec_S1 {ty : Nat → Option TI} {x : List DC} (h : WfL ty [.s] x) : ∃ n, x = S1 n := by
  cases h with
  | cons t ts x xs h1 h2 =>
    cases h2
    obtain ⟨n, rfl⟩ := dec_s h1
    exact ⟨n, rfl⟩
theorem wfl_cons {ty : Nat → Option TI} {t : CT} {ts : List CT} {x : List DC} (h : WfL ty (t :: ts) x) : ∃ c xs, x = c :: xs ∧ WfC ty t c ∧ WfL ty ts xs := by
  cases h with
  | cons t ts x xs h1 h2 => exact ⟨x, xs, rfl, h1, h2⟩
theorem wfl_nil {ty : Nat → Option TI} {x : List DC} (h : WfL ty [] x) : x = [] := by cases h; rfl
theorem mem_row_lt {l : List (List DC)} {x : List DC} (h : x ∈ l) : SizeOf.sizeOf x < SizeOf.sizeOf (DC.sl l) := by
  have := List.sizeOf_lt_of_mem h
  simp only [DC.sl.sizeOf_spec]
  omega

theorem tyS : cfg.ty 9 = some ⟨.str, [.s], 16, [], false⟩ := by kernel_rfl
theorem ty_Token : cfg.ty 50 = some ⟨.struct, [.i .i64, .s, .i .i64], 32, [(0, 1, false), (1, 1, false), (2, 1, false)], false⟩ := by kernel_rfl
theorem dec_Token {x : List DC} (h0 : WfL cfg.ty [.i .i64, .s, .i .i64] x) : ∃ v : TToken, x = TToken.enc v := by
  have h := h0
  obtain ⟨c0, r0, e0, w0, h⟩ := wfl_cons h
  obtain ⟨n0, rfl, _, _⟩ := dec_i w0
  obtain ⟨c1, r1, e1, w1, h⟩ := wfl_cons h
  obtain ⟨n1, rfl⟩ := dec_s w1
  obtain ⟨c2, r2, e2, w2, h⟩ := wfl_cons h
  obtain ⟨n2, rfl, _, _⟩ := dec_i w2
  have hn := wfl_nil h
  refine ⟨⟨n0, n1, n2⟩, ?_⟩
  rw [TToken.enc_eq]
  subst hn
  simp only [e0, e1, e2]
theorem decS_Token {c : DC} (h : WfC cfg.ty (.sl 50) c) : ∃ vs : List TToken, c = .sl (vs.map TToken.enc) := decC ty_Token (fun l _ y hy hw => dec_Token hw) h
theorem ty_Json : cfg.ty 25 = some ⟨.struct, [.i .i64, .s, .sl 25, .sl 9], 72, [(0, 1, false), (1, 1, false), (2, 1, false), (3, 1, false)], false⟩ := by kernel_rfl
theorem dec_Json {x : List DC} (h0 : WfL cfg.ty [.i .i64, .s, .sl 25, .sl 9] x) : ∃ v : TJson, x = TJson.enc v := by
  have h := h0
  obtain ⟨c0, r0, e0, w0, h⟩ := wfl_cons h
  obtain ⟨n0, rfl, _, _⟩ := dec_i w0
  obtain ⟨c1, r1, e1, w1, h⟩ := wfl_cons h
  obtain ⟨n1, rfl⟩ := dec_s w1
  obtain ⟨c2, r2, e2, w2, h⟩ := wfl_cons h
  have hrec2 : ∀ l, c2 = .sl l → ∀ y ∈ l, WfL cfg.ty [.i .i64, .s, .sl 25, .sl 9] y → ∃ v : TJson, y = TJson.enc v := fun l hl y hy hw => by
    have hlt : SizeOf.sizeOf y < SizeOf.sizeOf x := by
      have := mem_row_lt hy
      rw [← hl] at this
      subst e0 e1 e2
      simp only [List.cons.sizeOf_spec]
      omega
    exact dec_Json hw
  obtain ⟨n2, rfl⟩ := decC (enc := TJson.enc) ty_Json hrec2 w2
  obtain ⟨c3, r3, e3, w3, h⟩ := wfl_cons h
  obtain ⟨n3, rfl⟩ := decC (enc := S1) tyS (fun l _ y hy hw => dec_S1 hw) w3
  have hn := wfl_nil h
  refine ⟨⟨n0, n1, n2, n3⟩, ?_⟩
  rw [TJson.enc_eq]
  subst hn
  simp only [e0, e1, e2, e3]
termination_by SizeOf.sizeOf x
theorem decS_Json {c : DC} (h : WfC cfg.ty (.sl 25) c) : ∃ vs : List TJson, c = .sl (vs.map TJson.enc) := decC ty_Json (fun l _ y hy hw => dec_Json hw) h
end Go.Proofs.YtljggmbgbnmapaaDoorV

/- The law FnExactShortText answers true for each input that its row may have. -/
namespace Go.Proofs.YtljggmbgbnmapaaDoorV
open Go
set_option linter.unusedVariables false
set_option linter.unusedSimpArgs false
set_option maxRecDepth 100000
theorem wfl_app {ty : Nat → Option TI} : ∀ {ts1 ts2 : List CT} {x : List DC}, WfL ty (ts1 ++ ts2) x → ∃ y z, x = y ++ z ∧ WfL ty ts1 y ∧ WfL ty ts2 z
  | [], ts2, x, h => ⟨[], x, rfl, .nil, h⟩
  | t :: ts1, ts2, x, h => by
    obtain ⟨c, xs, rfl, h1, h2⟩ := wfl_cons h
    obtain ⟨y, z, rfl, h3, h4⟩ := wfl_app h2
    exact ⟨c :: y, z, rfl, .cons _ _ _ _ h1 h3, h4⟩
theorem law_FnExactShortText (d : List DC) (hd : WfL cfg.ty [.sl 50] d) : r_laws_FnExactShortText d = .ret [.b true] := by
  obtain ⟨y0, z0, e0, w0, hd⟩ := wfl_app (ts1 := [.sl 50]) (ts2 := []) hd
  have hz := wfl_nil hd
  obtain ⟨c0, q0, f0, v0, u0⟩ := wfl_cons w0
  have x0 := wfl_nil u0
  have k0 := wfc_ok v0
  obtain ⟨a0, g0⟩ := decS_Token v0
  subst g0 x0 f0
  subst hz
  subst e0
  rw [eq_laws_FnExactShortText]
  simp only [E_laws_FnExactShortText, List.cons_append, List.nil_append, List.append_nil, List.getD_cons_zero, List.getD_cons_succ, DC.bb_b, DC.ii_i, DC.ss_s, DC.ll_sl]
  rw [szS_Token a0 k0 (1048576) (by omega) (by omega)]
  simp only [Out.bindR_ret, List.getD_cons_zero, List.getD_cons_succ, DC.bb_b, DC.ii_i, DC.ss_s, DC.ll_sl]
  by_cases s0 : (1048576 : Int) < ((DC.wt (.sl (a0.map TToken.enc)) : Nat) : Int)
  · rw [szR_lt s0]
    rfl
  rw [szR_ge s0]
  have s0' : ¬ (1048576 : Int) - ((DC.wt (.sl (a0.map TToken.enc)) : Nat) : Int) < 0 := by omega
  simp only [s0', decide_false, Bool.false_eq_true, if_false]
  have W0 : DC.wt (.sl (a0.map TToken.enc)) ≤ 1048576 := by omega
  have l0 : a0.length ≤ 1048576 := by rw [DC.wt, List.length_map] at W0; omega
  obtain ⟨b0, hs, hi⟩ := short_both a0 W0
  simp only [toS_Token a0 W0, eqS_Token a0 W0, hs, hi, List.append_nil, List.getD_cons_zero, List.getD_cons_succ, DC.bb_b, DC.ii_i, DC.ss_s, DC.ll_sl, Out.bindR_ret, bne_self_eq_false, beq_self_eq_true, Bool.not_true, Bool.false_eq_true, if_false]
end Go.Proofs.YtljggmbgbnmapaaDoorV
