import Derived.Test.YtjmfjemandkfdaaGreatDoorMG7
import Derived.Lib.ValidLaws
import Derived.Lib.TrimUEq
import Derived.Shelf.Strings.Repeat
/- Texts: what both implementations answer. -/
namespace Go.Proofs.QV
open Go
set_option linter.unusedVariables false
set_option linter.unusedSimpArgs false
set_option maxRecDepth 100000
theorem spec_l01In (n a b : Int) : r_spec_l01In [.i n, .i a, .i b] = .ret [.b (decide (a ≤ n) && decide (n ≤ b))] := by
  rw [eq_spec_l01In]
  simp only [E_spec_l01In, List.getD_cons_zero, List.getD_cons_succ, DC.bb_b, DC.ii_i]
  by_cases h : a ≤ n
  · have : decide (n ≥ a) = true := decide_eq_true h
    simp [this, h]
  · have : decide (n ≥ a) = false := decide_eq_false h
    simp [this, h]
def scalar (n : Int) : Bool := decide (0 ≤ n ∧ n ≤ 1114111) && !decide (55296 ≤ n ∧ n ≤ 57343)
theorem spec_l02Scalar (n : Int) : r_spec_l02Scalar [.i n] = .ret [.b (scalar n)] := by
  rw [eq_spec_l02Scalar]
  simp only [E_spec_l02Scalar, List.getD_cons_zero, List.getD_cons_succ, DC.bb_b, DC.ii_i, spec_l01In, Out.bindR_ret, scalar, Bool.decide_and]
  cases (decide (0 ≤ n) && decide (n ≤ 1114111)) <;> simp
def runeLen (n : Int) : Nat := if scalar n = true then (if n < 128 then 1 else if n < 2048 then 2 else if n < 65536 then 3 else 4) else 0
theorem spec_RuneText (n : Int) : ∃ t : List UInt8, r_spec_RuneText [.i n] = .ret [.s t] ∧ t.length = runeLen n := by
  rw [eq_spec_RuneText]
  simp only [E_spec_RuneText, List.getD_cons_zero, List.getD_cons_succ, DC.bb_b, DC.ii_i, spec_l02Scalar, Out.bindR_ret, runeLen]
  cases scalar n with
  | false => exact ⟨[], by simp, by simp⟩
  | true =>
    simp only [Bool.not_true, Bool.false_eq_true, if_false, if_true, show ¬ (64 : Int) = 0 by decide, show ¬ (4096 : Int) = 0 by decide, show ¬ (262144 : Int) = 0 by decide]
    by_cases h1 : n < 128
    · exact ⟨_, by simp only [h1, decide_true, if_true]; rfl, by simp [h1, rowBytes]⟩
    · by_cases h2 : n < 2048
      · exact ⟨_, by simp only [h1, h2, decide_true, decide_false, Bool.false_eq_true, if_true, if_false]; rfl, by simp [h1, h2, rowBytes]⟩
      · by_cases h3 : n < 65536
        · exact ⟨_, by simp only [h1, h2, h3, decide_true, decide_false, Bool.false_eq_true, if_true, if_false]; rfl, by simp [h1, h2, h3, rowBytes]⟩
        · exact ⟨_, by simp only [h1, h2, h3, decide_true, decide_false, Bool.false_eq_true, if_true, if_false]; rfl, by simp [h1, h2, h3, rowBytes]⟩
theorem RuneAt_step (s : List UInt8) (i m j : Nat) (n : Int) (hs : s.length ≤ 1048576) (hj : j < m) (hi : i + j < s.length) (h0 : 0 ≤ n) (h1 : n < 16777216) :
    E_spec_RuneAtL1 [.s s, .i (i : Int), .i (m : Int), .i n, .i (j : Int)] = if 128 ≤ (s.getD (i + j) 0).toNat ∧ (s.getD (i + j) 0).toNat ≤ 191 then .norm [.s s, .i (i : Int), .i (m : Int), .i (n * 64 + (s.getD (i + j) 0).toNat - 128), .i ((j + 1 : Nat) : Int)] else .ret [.i (-1), .i 0] := by
  have e1 : decide ((j : Int) < (m : Int)) = true := decide_eq_true (by omega)
  have w1 : IntKind.i64.wrap ((i : Int) + (j : Int)) = ((i + j : Nat) : Int) := by rw [wrap64 (by omega) (by omega)]; omega
  have e2 : 0 ≤ ((i + j : Nat) : Int) ∧ ((i + j : Nat) : Int) < (s.length : Int) := by omega
  have hb := (s.getD (i + j) 0).toNat_lt
  simp only [E_spec_RuneAtL1, List.getD_cons_zero, List.getD_cons_succ, DC.bb_b, DC.ii_i, DC.ss_s, e1, w1, e2, if_true, and_self, decide_true, Int.toNat_natCast]
  generalize (s.getD (i + j) 0).toNat = c at *
  have w2 : IntKind.i64.wrap (c : Int) = c := wrap64 (by omega) (by omega)
  have w3 : IntKind.i64.wrap (n * 64) = n * 64 := wrap64 (by omega) (by omega)
  have w4 : IntKind.i64.wrap (n * 64 + c) = n * 64 + c := wrap64 (by omega) (by omega)
  have w5 : IntKind.i64.wrap (n * 64 + c - 128) = n * 64 + c - 128 := wrap64 (by omega) (by omega)
  have w6 : IntKind.i64.wrap ((j : Int) + 1) = ((j + 1 : Nat) : Int) := by rw [wrap64 (by omega) (by omega)]; omega
  rw [w2]
  by_cases h2 : c < 128
  · have d1 : decide ((c : Int) < 128) = true := decide_eq_true (by omega)
    simp only [d1, if_true, Out.andThen_norm, List.getD_cons_zero, List.getD_cons_succ, DC.bb_b]
    rw [if_neg (show ¬ (128 ≤ c ∧ c ≤ 191) by omega)]
    rfl
  · have d1 : decide ((c : Int) < 128) = false := decide_eq_false (by omega)
    simp only [d1, Bool.false_eq_true, if_false, Out.andThen_norm, List.getD_cons_zero, List.getD_cons_succ, DC.bb_b, DC.ii_i, DC.ss_s]
    by_cases h3 : c ≤ 191
    · have d2 : decide ((c : Int) > 191) = false := decide_eq_false (by omega)
      rw [if_pos (show 128 ≤ c ∧ c ≤ 191 by omega), d2]
      simp only [Bool.false_eq_true, if_false, w3, w4, w5]
      show Out.norm _ = _
      simp only [List.getD_cons_zero, List.getD_cons_succ, DC.ii_i, DC.ss_s, w6]
    · have d2 : decide ((c : Int) > 191) = true := decide_eq_true (by omega)
      rw [if_neg (show ¬ (128 ≤ c ∧ c ≤ 191) by omega), d2]
      rfl
theorem RuneAt_end (s : List UInt8) (i m : Nat) (n : Int) : E_spec_RuneAtL1 [.s s, .i (i : Int), .i (m : Int), .i n, .i (m : Int)] = .ex 1 [.i (m : Int), .i n] := by
  simp [E_spec_RuneAtL1]
def runeAt (d : Nat × Nat) : List DC := if d.1 = 65533 ∧ d.2 = 1 then [.i (-1), .i 0] else [.i (d.1 : Int), .i (d.2 : Int)]
def cont (c : Nat) : Bool := decide (128 ≤ c) && decide (c ≤ 191)
def finR (m : Nat) (n : Int) : List DC := if runeLen n = m then [.i n, .i (m : Int)] else [.i (-1), .i 0]
def specR (N b1 b2 b3 m : Nat) (n0 : Int) : List DC :=
  if N < m then [.i (-1), .i 0] else
  if cont b1 = false then [.i (-1), .i 0] else
  if m = 2 then finR 2 (n0 * 64 + b1 - 128) else
  if cont b2 = false then [.i (-1), .i 0] else
  if m = 3 then finR 3 ((n0 * 64 + b1 - 128) * 64 + b2 - 128) else
  if cont b3 = false then [.i (-1), .i 0] else
  finR 4 (((n0 * 64 + b1 - 128) * 64 + b2 - 128) * 64 + b3 - 128)
theorem cont_true {c : Nat} (h : cont c = true) : c / 64 = 2 ∧ c % 64 = c - 128 ∧ 128 ≤ c ∧ c ≤ 191 := by
  unfold cont at h
  simp only [Bool.and_eq_true, decide_eq_true_eq] at h
  omega
theorem cont_false {c : Nat} (hc : c < 256) (h : cont c = false) : ¬ c / 64 = 2 := by
  unfold cont at h
  simp only [Bool.and_eq_false_iff, decide_eq_false_iff_not] at h
  omega
theorem finR_eq (m : Nat) (n : Int) (k : Nat) (hm : 2 ≤ m) (hk : n = (k : Int)) (h : runeLen n = m) : finR m n = runeAt (k, m) := by
  unfold finR runeAt
  rw [if_pos h, if_neg (by simp only; omega), hk]
theorem finR_bad (m : Nat) (n : Int) (h : ¬ runeLen n = m) : finR m n = runeAt (65533, 1) := by
  unfold finR
  rw [if_neg h]; rfl
theorem pure2 (N b0 b1 b2 b3 : Nat) (h : 194 ≤ b0 ∧ b0 < 224) (h1 : b1 < 256) : specR N b1 b2 b3 2 ((b0 : Int) - 192) = runeAt (Lib.decodeN N b0 b1 b2 b3) := by
  have hd : Lib.decodeN N b0 b1 b2 b3 = if 1 < N ∧ b1 / 64 = 2 then (if b0 % 32 * 64 + b1 % 64 ≥ 128 then (b0 % 32 * 64 + b1 % 64, 2) else (65533, 1)) else (65533, 1) := by
    unfold Lib.decodeN
    rw [if_neg (by omega)]
    by_cases hc : 1 < N ∧ b1 / 64 = 2
    · rw [if_pos ⟨by omega, hc⟩, if_pos hc]
    · rw [if_neg (fun h => hc h.2), if_neg hc, if_neg (by omega), if_neg (by omega)]
  rw [hd]
  unfold specR
  by_cases hN : N < 2
  · rw [if_pos hN, if_neg (by omega)]; rfl
  rw [if_neg hN]
  cases hc : cont b1 with
  | false => rw [if_pos rfl, if_neg (fun h => cont_false h1 hc h.2)]; rfl
  | true =>
    obtain ⟨k1, k2, k3, k4⟩ := cont_true hc
    rw [if_neg (by simp), if_pos rfl, if_pos ⟨by omega, k1⟩, if_pos (by omega)]
    refine finR_eq 2 _ _ (by omega) (by omega) ?_
    unfold runeLen scalar
    rw [if_pos (by simp; omega), if_neg (by omega), if_pos (by omega)]
theorem pure3 (N b0 b1 b2 b3 : Nat) (h : 224 ≤ b0 ∧ b0 < 240) (h1 : b1 < 256) (h2 : b2 < 256) : specR N b1 b2 b3 3 ((b0 : Int) - 224) = runeAt (Lib.decodeN N b0 b1 b2 b3) := by
  have hd : Lib.decodeN N b0 b1 b2 b3 = if (1 < N ∧ b1 / 64 = 2) ∧ (2 < N ∧ b2 / 64 = 2) then
    (if b0 % 16 * 4096 + b1 % 64 * 64 + b2 % 64 ≥ 2048 ∧ (b0 % 16 * 4096 + b1 % 64 * 64 + b2 % 64 < 55296 ∨ (57344 ≤ b0 % 16 * 4096 + b1 % 64 * 64 + b2 % 64 ∧ b0 % 16 * 4096 + b1 % 64 * 64 + b2 % 64 ≤ 1114111))
     then (b0 % 16 * 4096 + b1 % 64 * 64 + b2 % 64, 3) else (65533, 1)) else (65533, 1) := by
    unfold Lib.decodeN
    rw [if_neg (by omega), if_neg (by omega)]
    by_cases hc : (1 < N ∧ b1 / 64 = 2) ∧ (2 < N ∧ b2 / 64 = 2)
    · rw [if_pos ⟨by omega, hc.1, hc.2⟩, if_pos hc]
    · rw [if_neg (fun h => hc ⟨h.2.1, h.2.2⟩), if_neg hc, if_neg (by omega)]
  rw [hd]
  unfold specR
  by_cases hN : N < 3
  · rw [if_pos hN, if_neg (by omega)]; rfl
  rw [if_neg hN]
  cases hc : cont b1 with
  | false => rw [if_pos rfl, if_neg (fun h => cont_false h1 hc h.1.2)]; rfl
  | true =>
    obtain ⟨k1, k2, k3, k4⟩ := cont_true hc
    rw [if_neg (by simp), if_neg (by omega)]
    cases hc2 : cont b2 with
    | false => rw [if_pos rfl, if_neg (fun h => cont_false h2 hc2 h.2.2)]; rfl
    | true =>
      obtain ⟨l1, l2, l3, l4⟩ := cont_true hc2
      rw [if_neg (by simp), if_pos rfl, if_pos ⟨⟨by omega, k1⟩, by omega, l1⟩]
      by_cases hv : b0 % 16 * 4096 + b1 % 64 * 64 + b2 % 64 ≥ 2048 ∧ (b0 % 16 * 4096 + b1 % 64 * 64 + b2 % 64 < 55296 ∨ (57344 ≤ b0 % 16 * 4096 + b1 % 64 * 64 + b2 % 64 ∧ b0 % 16 * 4096 + b1 % 64 * 64 + b2 % 64 ≤ 1114111))
      · rw [if_pos hv]
        refine finR_eq 3 _ _ (by omega) (by omega) ?_
        unfold runeLen scalar
        rw [if_pos (by simp; omega), if_neg (by omega), if_neg (by omega), if_pos (by omega)]
      · rw [if_neg hv]
        refine finR_bad 3 _ ?_
        unfold runeLen scalar
        by_cases hsc : (decide (0 ≤ (((b0 : Int) - 224) * 64 + b1 - 128) * 64 + b2 - 128 ∧ (((b0 : Int) - 224) * 64 + b1 - 128) * 64 + b2 - 128 ≤ 1114111) && !decide (55296 ≤ (((b0 : Int) - 224) * 64 + b1 - 128) * 64 + b2 - 128 ∧ (((b0 : Int) - 224) * 64 + b1 - 128) * 64 + b2 - 128 ≤ 57343)) = true
        · rw [if_pos hsc]
          simp only [Bool.and_eq_true, decide_eq_true_eq, Bool.not_eq_true', decide_eq_false_iff_not] at hsc
          rcases Int.lt_or_le ((((b0 : Int) - 224) * 64 + b1 - 128) * 64 + b2 - 128) 2048 with hq | hq
          · split <;> omega
          · omega
        · rw [if_neg hsc]; omega
theorem pure4 (N b0 b1 b2 b3 : Nat) (h : 240 ≤ b0 ∧ b0 < 245) (h1 : b1 < 256) (h2 : b2 < 256) (h3 : b3 < 256) : specR N b1 b2 b3 4 ((b0 : Int) - 240) = runeAt (Lib.decodeN N b0 b1 b2 b3) := by
  have hd : Lib.decodeN N b0 b1 b2 b3 = if (1 < N ∧ b1 / 64 = 2) ∧ (2 < N ∧ b2 / 64 = 2) ∧ (3 < N ∧ b3 / 64 = 2) then
    (if b0 % 8 * 262144 + b1 % 64 * 4096 + b2 % 64 * 64 + b3 % 64 ≥ 65536 ∧ (b0 % 8 * 262144 + b1 % 64 * 4096 + b2 % 64 * 64 + b3 % 64 < 55296 ∨ (57344 ≤ b0 % 8 * 262144 + b1 % 64 * 4096 + b2 % 64 * 64 + b3 % 64 ∧ b0 % 8 * 262144 + b1 % 64 * 4096 + b2 % 64 * 64 + b3 % 64 ≤ 1114111))
     then (b0 % 8 * 262144 + b1 % 64 * 4096 + b2 % 64 * 64 + b3 % 64, 4) else (65533, 1)) else (65533, 1) := by
    unfold Lib.decodeN
    rw [if_neg (by omega), if_neg (by omega), if_neg (by omega)]
    by_cases hc : (1 < N ∧ b1 / 64 = 2) ∧ (2 < N ∧ b2 / 64 = 2) ∧ (3 < N ∧ b3 / 64 = 2)
    · rw [if_pos ⟨by omega, hc⟩, if_pos hc]
    · rw [if_neg (fun h => hc h.2), if_neg hc]
  rw [hd]
  unfold specR
  by_cases hN : N < 4
  · rw [if_pos hN, if_neg (by omega)]; rfl
  rw [if_neg hN]
  cases hc : cont b1 with
  | false => rw [if_pos rfl, if_neg (fun h => cont_false h1 hc h.1.2)]; rfl
  | true =>
    obtain ⟨k1, k2, k3, k4⟩ := cont_true hc
    rw [if_neg (by simp), if_neg (by omega)]
    cases hc2 : cont b2 with
    | false => rw [if_pos rfl, if_neg (fun h => cont_false h2 hc2 h.2.1.2)]; rfl
    | true =>
      obtain ⟨l1, l2, l3, l4⟩ := cont_true hc2
      rw [if_neg (by simp), if_neg (by omega)]
      cases hc3 : cont b3 with
      | false => rw [if_pos rfl, if_neg (fun h => cont_false h3 hc3 h.2.2.2)]; rfl
      | true =>
        obtain ⟨m1, m2, m3, m4⟩ := cont_true hc3
        rw [if_neg (by simp), if_pos ⟨⟨by omega, k1⟩, ⟨by omega, l1⟩, by omega, m1⟩]
        by_cases hv : b0 % 8 * 262144 + b1 % 64 * 4096 + b2 % 64 * 64 + b3 % 64 ≥ 65536 ∧ (b0 % 8 * 262144 + b1 % 64 * 4096 + b2 % 64 * 64 + b3 % 64 < 55296 ∨ (57344 ≤ b0 % 8 * 262144 + b1 % 64 * 4096 + b2 % 64 * 64 + b3 % 64 ∧ b0 % 8 * 262144 + b1 % 64 * 4096 + b2 % 64 * 64 + b3 % 64 ≤ 1114111))
        · rw [if_pos hv]
          refine finR_eq 4 _ _ (by omega) (by omega) ?_
          unfold runeLen scalar
          rw [if_pos (by simp; omega), if_neg (by omega), if_neg (by omega), if_neg (by omega)]
        · rw [if_neg hv]
          refine finR_bad 4 _ ?_
          generalize hn : ((((b0 : Int) - 240) * 64 + b1 - 128) * 64 + b2 - 128) * 64 + b3 - 128 = n
          unfold runeLen scalar
          split
          · rename_i hsc
            simp only [Bool.and_eq_true, decide_eq_true_eq, Bool.not_eq_true', decide_eq_false_iff_not] at hsc
            split
            · omega
            · split
              · omega
              · split <;> omega
          · omega
theorem pure0 (N b0 b1 b2 b3 : Nat) (h : 128 ≤ b0) (hA : ¬ (194 ≤ b0 ∧ b0 < 224)) (hB : ¬ (224 ≤ b0 ∧ b0 < 240)) (hC : ¬ (240 ≤ b0 ∧ b0 < 245)) : runeAt (Lib.decodeN N b0 b1 b2 b3) = [.i (-1), .i 0] := by
  have : Lib.decodeN N b0 b1 b2 b3 = (65533, 1) := by
    unfold Lib.decodeN
    rw [if_neg (by omega)]
    by_cases h1 : b0 / 32 = 6 ∧ (1 < N ∧ b1 / 64 = 2)
    · rw [if_pos h1, if_neg (by omega)]
    · rw [if_neg h1, if_neg (by omega)]
      by_cases h2 : b0 / 8 = 30 ∧ (1 < N ∧ b1 / 64 = 2) ∧ (2 < N ∧ b2 / 64 = 2) ∧ (3 < N ∧ b3 / 64 = 2)
      · rw [if_pos h2, if_neg (by omega)]
      · rw [if_neg h2]
  rw [this]; rfl
theorem spec_RuneAt (s : List UInt8) (i : Nat) (hs : s.length ≤ 1048576) (hi : i < s.length) : r_spec_RuneAt [.s s, .i (i : Int)] = .ret (runeAt (Lib.decodeL (s.drop i))) := by
  rw [eq_spec_RuneAt, Lib.decodeL_N, List.length_drop, Lib.getD_dropU, Lib.getD_dropU, Lib.getD_dropU, Lib.getD_dropU, Nat.add_zero]
  have e1 : decide ((i : Int) < 0) = false := decide_eq_false (by omega)
  have e2 : decide ((i : Int) ≥ (s.length : Int)) = false := decide_eq_false (by omega)
  have e3 : 0 ≤ (i : Int) ∧ (i : Int) < (s.length : Int) := by omega
  simp only [E_spec_RuneAt, List.getD_cons_zero, List.getD_cons_succ, DC.bb_b, DC.ii_i, DC.ss_s, e1, e2, e3, Bool.false_eq_true, if_false, if_true, and_self, Out.andThen_norm, Int.toNat_natCast]
  have hb0 := (s.getD i 0).toNat_lt
  have hb1 := (s.getD (i + 1) 0).toNat_lt
  have hb2 := (s.getD (i + 2) 0).toNat_lt
  have hb3 := (s.getD (i + 3) 0).toNat_lt
  have st := RuneAt_step s i
  generalize hB0 : (s.getD i 0).toNat = b0 at *
  have w0 : IntKind.i64.wrap (b0 : Int) = b0 := wrap64 (by omega) (by omega)
  rw [w0]
  by_cases c0 : b0 < 128
  · have d1 : decide ((b0 : Int) < 128) = true := decide_eq_true (by omega)
    simp only [d1, if_true]
    have : Lib.decodeN (s.length - i) b0 (s.getD (i + 1) 0).toNat (s.getD (i + 2) 0).toNat (s.getD (i + 3) 0).toNat = (b0, 1) := by unfold Lib.decodeN; rw [if_pos c0]
    rw [this]
    unfold runeAt
    rw [if_neg (by simp only; omega)]
    rfl
  have d0' : decide ((b0 : Int) < 128) = false := decide_eq_false (by omega)
  have fin : ∀ (m : Nat) (n : Int) (o : Out), o = .ex 1 [.i (m : Int), .i n] → Out.andThenB o 1 (fun v11 => (r_spec_RuneText [DC.i ((v11.getD 1 d0).ii)]).bindR fun r12 =>
          if ((((r12.getD 0 d0).ss).length : Int) != (v11.getD 0 d0).ii) = true then
            .ret [DC.i (-1 : Int), DC.i (0 : Int)]
          else
            .ret [DC.i ((v11.getD 1 d0).ii), DC.i ((v11.getD 0 d0).ii)]) = .ret (if runeLen n = m then [.i n, .i (m : Int)] else [.i (-1), .i 0]) := by
    intro m n o ho
    subst ho
    obtain ⟨t, ht, hl⟩ := spec_RuneText n
    show Out.bindR (r_spec_RuneText [DC.i n]) _ = _
    rw [ht, Out.bindR_ret]
    show (if (((t.length : Int) != (m : Int)) = true) then Out.ret [DC.i (-1), DC.i 0] else Out.ret [DC.i n, DC.i (m : Int)]) = _
    rw [hl]
    by_cases h : runeLen n = m
    · rw [if_pos h, h]; simp
    · rw [if_neg h, if_pos (by simp; omega)]
  have hBk : ∀ k, ((s.getD (i + k) 0).toNat) < 256 := fun k => (s.getD (i + k) 0).toNat_lt
  have body : ∀ (m : Nat) (n0 : Int), m = 2 ∨ m = 3 ∨ m = 4 → 0 ≤ n0 → n0 < 64 → (if decide (((i + m : Nat) : Int) > (s.length : Int)) = true then Out.ret [DC.i (-1 : Int), DC.i (0 : Int)] else
        Out.andThenB (Loop E_spec_RuneAtL1 [DC.s s, DC.i (i : Int), DC.i (m : Int), DC.i n0, DC.i (1 : Int)]) 1 (fun v11 => (r_spec_RuneText [DC.i ((v11.getD 1 d0).ii)]).bindR fun r12 =>
          if ((((r12.getD 0 d0).ss).length : Int) != (v11.getD 0 d0).ii) = true then
            .ret [DC.i (-1 : Int), DC.i (0 : Int)]
          else
            .ret [DC.i ((v11.getD 1 d0).ii), DC.i ((v11.getD 0 d0).ii)])) = .ret (specR (s.length - i) (s.getD (i + 1) 0).toNat (s.getD (i + 2) 0).toNat (s.getD (i + 3) 0).toNat m n0) := by
    intro m n0 hm h0 h1
    unfold specR
    by_cases hN : s.length - i < m
    · have e : decide (((i + m : Nat) : Int) > (s.length : Int)) = true := decide_eq_true (by omega)
      rw [if_pos e, if_pos hN]
    have e : decide (((i + m : Nat) : Int) > (s.length : Int)) = false := decide_eq_false (by omega)
    rw [if_neg hN]
    simp only [e, Bool.false_eq_true, if_false]
    have hc : ∀ k, cont (s.getD (i + k) 0).toNat = decide (128 ≤ (s.getD (i + k) 0).toNat ∧ (s.getD (i + k) 0).toNat ≤ 191) := fun k => by unfold cont; rw [Bool.decide_and]
    have stp : ∀ (j : Nat) (n : Int), j < m → 0 ≤ n → n < 16777216 → E_spec_RuneAtL1 [.s s, .i (i : Int), .i (m : Int), .i n, .i (j : Int)] = if cont (s.getD (i + j) 0).toNat = false then .ret [.i (-1), .i 0] else .norm [.s s, .i (i : Int), .i (m : Int), .i (n * 64 + (s.getD (i + j) 0).toNat - 128), .i ((j + 1 : Nat) : Int)] := by
      intro j n hj a b
      rw [RuneAt_step s i m j n hs hj (by omega) a b, hc]
      by_cases hq : 128 ≤ (s.getD (i + j) 0).toNat ∧ (s.getD (i + j) 0).toNat ≤ 191
      · rw [if_pos hq, decide_eq_true hq]; rfl
      · rw [if_neg hq, decide_eq_false hq]; rfl
    have rng : ∀ (j : Nat), cont (s.getD (i + j) 0).toNat = true → 128 ≤ (s.getD (i + j) 0).toNat ∧ (s.getD (i + j) 0).toNat ≤ 191 := fun j hj => ⟨(cont_true hj).2.2.1, (cont_true hj).2.2.2⟩
    have s1 := stp 1 n0 (by omega) h0 (by omega)
    cases c1 : cont (s.getD (i + 1) 0).toNat with
    | false =>
      rw [c1, if_pos rfl] at s1
      rw [if_pos rfl]
      have := Loop_ret s1
      rw [show ((1 : Nat) : Int) = 1 from rfl] at this
      rw [this]; rfl
    | true =>
      have r1 := rng 1 c1
      rw [c1, if_neg (by simp)] at s1
      rw [if_neg (by simp)]
      have l1 := Loop_norm s1
      rw [show ((1 : Nat) : Int) = 1 from rfl] at l1
      rw [l1]
      by_cases m2 : m = 2
      · subst m2
        rw [if_pos rfl]
        exact fin 2 _ _ (Loop_ex (RuneAt_end s i 2 _))
      rw [if_neg m2]
      have s2 := stp 2 (n0 * 64 + (s.getD (i + 1) 0).toNat - 128) (by omega) (by omega) (by omega)
      cases c2 : cont (s.getD (i + 2) 0).toNat with
      | false =>
        rw [c2, if_pos rfl] at s2
        rw [if_pos rfl]
        show Out.andThenB (Loop _ [_, _, _, _, .i ((2 : Nat) : Int)]) _ _ = _
        rw [Loop_ret s2]; rfl
      | true =>
        have r2 := rng 2 c2
        rw [c2, if_neg (by simp)] at s2
        rw [if_neg (by simp)]
        show Out.andThenB (Loop _ [_, _, _, _, .i ((2 : Nat) : Int)]) _ _ = _
        rw [Loop_norm s2]
        by_cases m3 : m = 3
        · subst m3
          rw [if_pos rfl]
          exact fin 3 _ _ (Loop_ex (RuneAt_end s i 3 _))
        rw [if_neg m3]
        have m4 : m = 4 := by omega
        subst m4
        have s3 := stp 3 ((n0 * 64 + (s.getD (i + 1) 0).toNat - 128) * 64 + (s.getD (i + 2) 0).toNat - 128) (by omega) (by omega) (by omega)
        cases c3 : cont (s.getD (i + 3) 0).toNat with
        | false =>
          rw [c3, if_pos rfl] at s3
          rw [if_pos rfl]
          show Out.andThenB (Loop _ [_, _, _, _, .i ((3 : Nat) : Int)]) _ _ = _
          rw [Loop_ret s3]; rfl
        | true =>
          rw [c3, if_neg (by simp)] at s3
          rw [if_neg (by simp)]
          show Out.andThenB (Loop _ [_, _, _, _, .i ((3 : Nat) : Int)]) _ _ = _
          rw [Loop_norm s3]
          exact fin 4 _ _ (Loop_ex (RuneAt_end s i 4 _))
  simp only [d0', Bool.false_eq_true, if_false]
  by_cases cA : 194 ≤ b0 ∧ b0 < 224
  · have d1 : decide ((b0 : Int) ≥ 194) = true := decide_eq_true (by omega)
    have d2 : decide ((b0 : Int) < 224) = true := decide_eq_true (by omega)
    have w1 : IntKind.i64.wrap ((b0 : Int) - 192) = b0 - 192 := wrap64 (by omega) (by omega)
    have w2 : IntKind.i64.wrap ((i : Int) + 2) = ((i + 2 : Nat) : Int) := by rw [wrap64 (by omega) (by omega)]; omega
    simp only [d1, d2, if_true, Out.andThen_norm, Out.andThenB_norm, List.getD_cons_zero, List.getD_cons_succ, DC.bb_b, DC.ii_i, DC.ss_s, w1, w2]
    exact (body 2 ((b0 : Int) - 192) (by omega) (by omega) (by omega)).trans (congrArg Out.ret (pure2 _ _ _ _ _ cA (hBk 1)))
  by_cases cB : 224 ≤ b0 ∧ b0 < 240
  · have d1 : decide ((b0 : Int) ≥ 194) = true := decide_eq_true (by omega)
    have d2 : decide ((b0 : Int) < 224) = false := decide_eq_false (by omega)
    have d3 : decide ((b0 : Int) ≥ 224) = true := decide_eq_true (by omega)
    have d4 : decide ((b0 : Int) < 240) = true := decide_eq_true (by omega)
    have w1 : IntKind.i64.wrap ((b0 : Int) - 224) = b0 - 224 := wrap64 (by omega) (by omega)
    have w2 : IntKind.i64.wrap ((i : Int) + 3) = ((i + 3 : Nat) : Int) := by rw [wrap64 (by omega) (by omega)]; omega
    simp only [d1, d2, d3, d4, if_true, Bool.false_eq_true, if_false, Out.andThen_norm, Out.andThenB_norm, List.getD_cons_zero, List.getD_cons_succ, DC.bb_b, DC.ii_i, DC.ss_s, w1, w2]
    exact (body 3 ((b0 : Int) - 224) (by omega) (by omega) (by omega)).trans (congrArg Out.ret (pure3 _ _ _ _ _ cB (hBk 1) (hBk 2)))
  by_cases cC : 240 ≤ b0 ∧ b0 < 245
  · have d1 : decide ((b0 : Int) ≥ 194) = true := decide_eq_true (by omega)
    have d2 : decide ((b0 : Int) < 224) = false := decide_eq_false (by omega)
    have d3 : decide ((b0 : Int) ≥ 224) = true := decide_eq_true (by omega)
    have d4 : decide ((b0 : Int) < 240) = false := decide_eq_false (by omega)
    have d5 : decide ((b0 : Int) ≥ 240) = true := decide_eq_true (by omega)
    have d6 : decide ((b0 : Int) < 245) = true := decide_eq_true (by omega)
    have w1 : IntKind.i64.wrap ((b0 : Int) - 240) = b0 - 240 := wrap64 (by omega) (by omega)
    have w2 : IntKind.i64.wrap ((i : Int) + 4) = ((i + 4 : Nat) : Int) := by rw [wrap64 (by omega) (by omega)]; omega
    simp only [d1, d2, d3, d4, d5, d6, if_true, Bool.false_eq_true, if_false, Out.andThen_norm, Out.andThenB_norm, List.getD_cons_zero, List.getD_cons_succ, DC.bb_b, DC.ii_i, DC.ss_s, w1, w2]
    exact (body 4 ((b0 : Int) - 240) (by omega) (by omega) (by omega)).trans (congrArg Out.ret (pure4 _ _ _ _ _ cC (hBk 1) (hBk 2) (hBk 3)))
  rw [pure0 _ _ _ _ _ (by omega) cA cB cC]
  rcases Nat.lt_or_ge b0 194 with q | q
  · have d1 : decide ((b0 : Int) ≥ 194) = false := decide_eq_false (by omega)
    have d3 : decide ((b0 : Int) ≥ 224) = false := decide_eq_false (by omega)
    have d5 : decide ((b0 : Int) ≥ 240) = false := decide_eq_false (by omega)
    simp only [d1, d3, d5, if_true, Bool.false_eq_true, if_false, Out.andThen_norm, Out.andThenB_norm, List.getD_cons_zero, List.getD_cons_succ, DC.bb_b, DC.ii_i, DC.ss_s]
    rfl
  · have d1 : decide ((b0 : Int) ≥ 194) = true := decide_eq_true (by omega)
    have d2 : decide ((b0 : Int) < 224) = false := decide_eq_false (by omega)
    have d3 : decide ((b0 : Int) ≥ 224) = true := decide_eq_true (by omega)
    have d4 : decide ((b0 : Int) < 240) = false := decide_eq_false (by omega)
    have d5 : decide ((b0 : Int) ≥ 240) = true := decide_eq_true (by omega)
    have d6 : decide ((b0 : Int) < 245) = false := decide_eq_false (by omega)
    simp only [d1, d2, d3, d4, d5, d6, if_true, Bool.false_eq_true, if_false, Out.andThen_norm, Out.andThenB_norm, List.getD_cons_zero, List.getD_cons_succ, DC.bb_b, DC.ii_i, DC.ss_s]
    rfl
theorem spec_TextOk (s : List UInt8) (hs : s.length ≤ 1048576) : r_spec_TextOk [.s s] = .ret [.b (Lib.validD s)] := by
  rw [eq_spec_TextOk]
  simp only [E_spec_TextOk, List.getD_cons_zero, List.getD_cons_succ, DC.bb_b, DC.ii_i, DC.ss_s]
  have key : ∀ (k i : Nat), s.length - i ≤ k → i ≤ s.length → Loop E_spec_TextOkL1 [.s s, .i (i : Int)] = if Lib.validD (s.drop i) = true then .ex 0 [] else .ret [.b false] := by
    intro k
    induction k with
    | zero =>
      intro i hk hi
      have : i = s.length := by omega
      subst this
      have e : decide ((s.length : Int) < (s.length : Int)) = false := decide_eq_false (by omega)
      rw [Loop_ex (r := []) (id := 0) (by simp only [E_spec_TextOkL1, List.getD_cons_zero, List.getD_cons_succ, DC.ii_i, DC.ss_s, e, Bool.false_eq_true, if_false]), List.drop_length]
      rfl
    | succ k ih =>
      intro i hk hi
      rcases Nat.lt_or_ge i s.length with hl | hl
      · have hne : s.drop i ≠ [] := fun h => by have := List.drop_eq_nil_iff.1 h; omega
        rw [Lib.validD_step _ hne]
        have hw := Lib.decodeL_width (s.drop i)
        have hdl : (s.drop i).length = s.length - i := List.length_drop
        have hpos : 0 < (s.drop i).length := List.length_pos_iff.2 hne
        have e : decide ((i : Int) < (s.length : Int)) = true := decide_eq_true (by omega)
        have hle : (Lib.decodeL (s.drop i)).2 ≤ s.length - i := by
          rw [← hdl]
          have := decodeN_wide (s.drop i).length ((s.drop i).getD 0 0).toNat ((s.drop i).getD 1 0).toNat ((s.drop i).getD 2 0).toNat ((s.drop i).getD 3 0).toNat hpos
          rw [← Lib.decodeL_N] at this
          exact this.2.1
        have hge : 1 ≤ (Lib.decodeL (s.drop i)).2 := by
          have := decodeN_wide (s.drop i).length ((s.drop i).getD 0 0).toNat ((s.drop i).getD 1 0).toNat ((s.drop i).getD 2 0).toNat ((s.drop i).getD 3 0).toNat hpos
          rw [← Lib.decodeL_N] at this
          exact this.1
        have hra := spec_RuneAt s i hs hl
        unfold runeAt at hra
        by_cases hb : (Lib.decodeL (s.drop i)).1 = 65533 ∧ (Lib.decodeL (s.drop i)).2 = 1
        · rw [if_pos hb] at hra ⊢
          rw [Loop_ret (r := [.b false]) (by simp only [E_spec_TextOkL1, List.getD_cons_zero, List.getD_cons_succ, DC.ii_i, DC.ss_s, e, if_true, hra, Out.bindR_ret]; rfl)]
          rfl
        · rw [if_neg hb] at hra ⊢
          have e2 : decide (((Lib.decodeL (s.drop i)).1 : Int) < 0) = false := decide_eq_false (by omega)
          have w : IntKind.i64.wrap ((i : Int) + ((Lib.decodeL (s.drop i)).2 : Int)) = ((i + (Lib.decodeL (s.drop i)).2 : Nat) : Int) := by rw [wrap64 (by omega) (by omega)]; omega
          rw [Loop_norm (v' := [.s s, .i ((i + (Lib.decodeL (s.drop i)).2 : Nat) : Int)]) (by simp only [E_spec_TextOkL1, List.getD_cons_zero, List.getD_cons_succ, DC.ii_i, DC.ss_s, e, if_true, hra, Out.bindR_ret, e2, Bool.false_eq_true, if_false, w, Out.andThenB_norm]),
            ih _ (by omega) (by omega), List.drop_drop]
      · have : i = s.length := by omega
        subst this
        have e : decide ((s.length : Int) < (s.length : Int)) = false := decide_eq_false (by omega)
        rw [Loop_ex (r := []) (id := 0) (by simp only [E_spec_TextOkL1, List.getD_cons_zero, List.getD_cons_succ, DC.ii_i, DC.ss_s, e, Bool.false_eq_true, if_false]), List.drop_length]
        rfl
  have h := key s.length 0 (by omega) (by omega)
  rw [show ((0 : Nat) : Int) = 0 from rfl, List.drop_zero] at h
  rw [h]
  cases Lib.validD s <;> simp
theorem impl_TextOk (s : List UInt8) (hs : s.length ≤ 1048576) : r_impl_TextOk [.s s] = .ret [.b (Lib.validD s)] := by
  rw [eq_impl_TextOk]
  simp only [E_impl_TextOk, List.getD_cons_zero, List.getD_cons_succ, DC.bb_b, DC.ii_i, DC.ss_s]
  rw [eq_unicode_utf8_ValidString]
  have : E_unicode_utf8_ValidString [.s s] = .ret [.b (Lib.validD s)] := by
    unfold E_unicode_utf8_ValidString primH
    have hh : hintLit [.s] h_unicode_utf8_ValidString = true := rfl
    have hq : qValidString [.s s] = some [.b (Lib.validD s)] := by
      unfold qValidString
      simp only
      rw [if_pos (by omega)]
    rw [hh, hq]
    rfl
  rw [this]
  rfl
def hexL : List UInt8 := [48, 49, 50, 51, 52, 53, 54, 55, 56, 57, 97, 98, 99, 100, 101, 102]
def hx (n : Nat) : UInt8 := hexL.getD n 0
def esc (b : UInt8) : List UInt8 :=
  if (b == 34) = true then [92, 34] else if (b == 92) = true then [92, 92] else if (b == 8) = true then [92, 98] else if (b == 9) = true then [92, 116] else if (b == 10) = true then [92, 110] else
  if (b == 12) = true then [92, 102] else if (b == 13) = true then [92, 114] else if b.toNat < 32 ∨ (b == 127) = true then [92, 117, 48, 48, hx (b.toNat / 16), hx (b.toNat % 16)] else [b]
theorem esc_len (b : UInt8) : (esc b).length ≤ 6 := by
  unfold esc
  repeat' split
  all_goals simp
def escs (s : List UInt8) : List UInt8 := s.flatMap esc
theorem escs_len : ∀ s : List UInt8, (escs s).length ≤ 6 * s.length
  | [] => Nat.le_refl _
  | b :: s => by
    have := escs_len s
    have hb := esc_len b
    unfold escs at *
    rw [List.flatMap_cons, List.length_append, List.length_cons]
    omega
def escaped (s : List UInt8) : List UInt8 := if Lib.validD s = true ∧ s.length ≤ 200 then 34 :: (escs s ++ [34]) else []
theorem shr4 : ∀ n : Fin 256, ((n.1 : Int).fdiv (2 ^ (min (4 : Int).toNat (IntKind.u8.bits)))) = ((n.1 / 16 : Nat) : Int) := by decide +kernel
theorem and15 : ∀ n : Fin 256, (IntKind.u8.wrap (BitVec.ofInt (IntKind.u8.bits) (n.1 : Int) &&& BitVec.ofInt (IntKind.u8.bits) (15 : Int)).toNat) = ((n.1 % 16 : Nat) : Int) := by decide +kernel
theorem spec_l04Hex4 (n : Nat) (hn : n < 256) : r_spec_l04Hex4 [.i (n : Int)] = .ret [.s [48, 48, hx (n / 16), hx (n % 16)]] := by
  rw [eq_spec_l04Hex4]
  have w : ∀ k : Nat, IntKind.i64.wrap ((n : Int).tdiv (k : Int)) = ((n / k : Nat) : Int) := fun k => by
    have e : ((n : Int).tdiv (k : Int)) = ((n / k : Nat) : Int) := rfl
    rw [e]
    have := Nat.div_le_self n k
    generalize n / k = q at *
    exact wrap64 (by omega) (by omega)
  have w1 : IntKind.i64.wrap ((n : Int).tdiv 4096) = ((n / 4096 : Nat) : Int) := w 4096
  have w2 : IntKind.i64.wrap ((n : Int).tdiv 256) = ((n / 256 : Nat) : Int) := w 256
  have w3 : IntKind.i64.wrap ((n : Int).tdiv 16) = ((n / 16 : Nat) : Int) := w 16
  have t : ∀ k : Nat, ((k : Int).tmod 16) = ((k % 16 : Nat) : Int) := fun k => rfl
  have b : ∀ k : Nat, (0 ≤ ((k % 16 : Nat) : Int) ∧ ((k % 16 : Nat) : Int) < (([48, 49, 50, 51, 52, 53, 54, 55, 56, 57, 97, 98, 99, 100, 101, 102] : List UInt8).length : Int)) = True := fun k => by
    simp only [List.length_cons, List.length_nil, eq_iff_iff, iff_true]
    omega
  have h0 : n / 4096 % 16 = 0 := by omega
  have h1 : n / 256 % 16 = 0 := by omega
  have h2 : n / 16 % 16 = n / 16 := by omega
  simp only [E_spec_l04Hex4, List.getD_cons_zero, DC.ii_i, w1, w2, w3, t, b, if_true, show ¬ (4096 : Int) = 0 by decide, show ¬ (256 : Int) = 0 by decide, show ¬ (16 : Int) = 0 by decide, if_false, Int.toNat_natCast, h0, h1, h2]
  have b0 : (0 ≤ ((0 : Nat) : Int) ∧ ((0 : Nat) : Int) < (([48, 49, 50, 51, 52, 53, 54, 55, 56, 57, 97, 98, 99, 100, 101, 102] : List UInt8).length : Int)) = True := b 0
  have b1 : (0 ≤ ((n / 16 : Nat) : Int) ∧ ((n / 16 : Nat) : Int) < (([48, 49, 50, 51, 52, 53, 54, 55, 56, 57, 97, 98, 99, 100, 101, 102] : List UInt8).length : Int)) = True := by
    have := b (n / 16)
    rw [h2] at this
    exact this
  simp only [b0, b1, if_true]
  have hh : ∀ k : Nat, UInt8.ofNat (((hexL.getD k 0).toNat : Int)).toNat = hx k := fun k => by
    rw [Int.toNat_natCast]
    exact UInt8.ofNat_toNat
  show Out.ret [DC.s [UInt8.ofNat _, UInt8.ofNat _, UInt8.ofNat _, UInt8.ofNat _]] = _
  have e := hh (n / 16)
  have e' := hh (n % 16)
  unfold hexL at e e'
  simp only [List.getD_cons_zero, DC.ii_i, e, e']
  rfl
theorem take_drop_one (s : List UInt8) (i : Nat) (hi : i < s.length) : (s.take (i + 1)).drop i = [s.getD i 0] := by
  rw [List.drop_take, show i + 1 - i = 1 by omega, List.drop_eq_getElem_cons hi, List.take_succ_cons, List.take_zero, List.getD_eq_getElem?_getD, List.getElem?_eq_getElem hi]
  rfl
theorem spec_Escaped_step (s out : List UInt8) (i : Nat) (hs : s.length ≤ 200) (hi : i < s.length) (ho : out.length ≤ 2000) :
    E_spec_EscapedL1 [.s s, .s out, .i (i : Int)] = .norm [.s s, .s (out ++ esc (s.getD i 0)), .i ((i + 1 : Nat) : Int)] := by
  have e1 : decide ((i : Int) < (s.length : Int)) = true := decide_eq_true (by omega)
  have e2 : 0 ≤ (i : Int) ∧ (i : Int) < (s.length : Int) := by omega
  have w := wrap_succ hi (show s.length ≤ 9223372036854775807 by omega)
  have e3 : 0 ≤ (i : Int) ∧ (i : Int) ≤ ((i + 1 : Nat) : Int) ∧ ((i + 1 : Nat) : Int) ≤ (s.length : Int) := by omega
  have L : ∀ k, k ≤ 2010 → k < LIM := fun k hk => Nat.lt_of_le_of_lt hk (by decide)
  have td := take_drop_one s i hi
  have hb := (s.getD i 0).toNat_lt
  simp only [E_spec_EscapedL1, List.getD_cons_zero, List.getD_cons_succ, DC.bb_b, DC.ii_i, DC.ss_s, e1, e2, if_true, and_self, decide_true, Int.toNat_natCast, w, e3, td]
  generalize s.getD i 0 = b at *
  have u34 : ((b.toNat : Int) == 34) = (b == 34) := u8_eq b 34 (by omega)
  have u92 : ((b.toNat : Int) == 92) = (b == 92) := u8_eq b 92 (by omega)
  have u8' : ((b.toNat : Int) == 8) = (b == 8) := u8_eq b 8 (by omega)
  have u9 : ((b.toNat : Int) == 9) = (b == 9) := u8_eq b 9 (by omega)
  have u10 : ((b.toNat : Int) == 10) = (b == 10) := u8_eq b 10 (by omega)
  have u12 : ((b.toNat : Int) == 12) = (b == 12) := u8_eq b 12 (by omega)
  have u13 : ((b.toNat : Int) == 13) = (b == 13) := u8_eq b 13 (by omega)
  have u127 : ((b.toNat : Int) == 127) = (b == 127) := u8_eq b 127 (by omega)
  have wb : IntKind.i64.wrap (b.toNat : Int) = (b.toNat : Int) := wrap64 (by omega) (by omega)
  have u32 : decide ((b.toNat : Int) < 32) = decide (b.toNat < 32) := by rw [Bool.eq_iff_iff, decide_eq_true_eq, decide_eq_true_eq]; omega
  have l1 : ∀ x y : UInt8, out.length + [x, y].length < LIM := fun x y => L _ (by simp; omega)
  have l2 : ∀ x : UInt8, out.length + [x].length < LIM := fun x => L _ (by simp; omega)
  have l3 : ∀ x y : UInt8, (out ++ [x]).length + [y].length < LIM := fun x y => L _ (by simp; omega)
  have l4 : ∀ x y a b c d : UInt8, (out ++ [x, y]).length + [a, b, c, d].length < LIM := fun x y a b c d => L _ (by simp; omega)
  simp only [u34, u92, u8', u9, u10, u12, u13, u127, u32, wb]
  unfold esc
  cases h34 : b == 34 with
  | true =>
    rw [beq_iff_eq] at h34
    subst h34
    simp only [if_true, Out.andThen_norm, Out.andThenB_norm, List.getD_cons_zero, List.getD_cons_succ, DC.bb_b, DC.ii_i, DC.ss_s, l2, l3, e3, and_self, w, td, Int.toNat_natCast, List.append_assoc, List.singleton_append, beq_self_eq_true]
  | false =>
  cases h92 : b == 92 with
  | true =>
    rw [beq_iff_eq] at h92
    subst h92
    simp only [show ((92 : UInt8) == 34) = false from rfl, if_true, Bool.false_eq_true, if_false, Out.andThen_norm, Out.andThenB_norm, List.getD_cons_zero, List.getD_cons_succ, DC.bb_b, DC.ii_i, DC.ss_s, l1, l2, l3, l4, e3, and_self, w, td, Int.toNat_natCast, List.append_assoc, List.singleton_append, List.cons_append, List.nil_append, beq_self_eq_true, u34, u92, u8', u9, u10, u12, u13, u127, u32, wb]
  | false =>
  cases h8 : b == 8 with
  | true =>
    simp only [decide_true, decide_false, h34, h92, h8, if_true, Bool.false_eq_true, if_false, Out.andThen_norm, Out.andThenB_norm, List.getD_cons_zero, List.getD_cons_succ, DC.bb_b, DC.ii_i, DC.ss_s, l1, l2, l3, l4, e3, and_self, w, td, Int.toNat_natCast, List.append_assoc, List.singleton_append, List.cons_append, List.nil_append, beq_self_eq_true, u34, u92, u8', u9, u10, u12, u13, u127, u32, wb]
  | false =>
  cases h9 : b == 9 with
  | true =>
    simp only [decide_true, decide_false, h34, h92, h8, h9, if_true, Bool.false_eq_true, if_false, Out.andThen_norm, Out.andThenB_norm, List.getD_cons_zero, List.getD_cons_succ, DC.bb_b, DC.ii_i, DC.ss_s, l1, l2, l3, l4, e3, and_self, w, td, Int.toNat_natCast, List.append_assoc, List.singleton_append, List.cons_append, List.nil_append, beq_self_eq_true, u34, u92, u8', u9, u10, u12, u13, u127, u32, wb]
  | false =>
  cases h10 : b == 10 with
  | true =>
    simp only [decide_true, decide_false, h34, h92, h8, h9, h10, if_true, Bool.false_eq_true, if_false, Out.andThen_norm, Out.andThenB_norm, List.getD_cons_zero, List.getD_cons_succ, DC.bb_b, DC.ii_i, DC.ss_s, l1, l2, l3, l4, e3, and_self, w, td, Int.toNat_natCast, List.append_assoc, List.singleton_append, List.cons_append, List.nil_append, beq_self_eq_true, u34, u92, u8', u9, u10, u12, u13, u127, u32, wb]
  | false =>
  cases h12 : b == 12 with
  | true =>
    simp only [decide_true, decide_false, h34, h92, h8, h9, h10, h12, if_true, Bool.false_eq_true, if_false, Out.andThen_norm, Out.andThenB_norm, List.getD_cons_zero, List.getD_cons_succ, DC.bb_b, DC.ii_i, DC.ss_s, l1, l2, l3, l4, e3, and_self, w, td, Int.toNat_natCast, List.append_assoc, List.singleton_append, List.cons_append, List.nil_append, beq_self_eq_true, u34, u92, u8', u9, u10, u12, u13, u127, u32, wb]
  | false =>
  cases h13 : b == 13 with
  | true =>
    simp only [decide_true, decide_false, h34, h92, h8, h9, h10, h12, h13, if_true, Bool.false_eq_true, if_false, Out.andThen_norm, Out.andThenB_norm, List.getD_cons_zero, List.getD_cons_succ, DC.bb_b, DC.ii_i, DC.ss_s, l1, l2, l3, l4, e3, and_self, w, td, Int.toNat_natCast, List.append_assoc, List.singleton_append, List.cons_append, List.nil_append, beq_self_eq_true, u34, u92, u8', u9, u10, u12, u13, u127, u32, wb]
  | false =>
  by_cases h32 : b.toNat < 32
  · have d : decide (b.toNat < 32) = true := decide_eq_true h32
    simp only [decide_true, decide_false, h34, h92, h8, h9, h10, h12, h13, d, h32, true_or, spec_l04Hex4 _ hb, Out.bindR_ret, if_true, Bool.false_eq_true, if_false, Out.andThen_norm, Out.andThenB_norm, List.getD_cons_zero, List.getD_cons_succ, DC.bb_b, DC.ii_i, DC.ss_s, l1, l2, l3, l4, e3, and_self, w, td, Int.toNat_natCast, List.append_assoc, List.singleton_append, List.cons_append, List.nil_append, beq_self_eq_true, u34, u92, u8', u9, u10, u12, u13, u127, u32, wb]
  · have d : decide (b.toNat < 32) = false := decide_eq_false h32
    cases h127 : b == 127 with
    | true =>
      simp only [decide_true, decide_false, h34, h92, h8, h9, h10, h12, h13, d, h32, h127, or_true, spec_l04Hex4 _ hb, Out.bindR_ret, if_true, Bool.false_eq_true, if_false, Out.andThen_norm, Out.andThenB_norm, List.getD_cons_zero, List.getD_cons_succ, DC.bb_b, DC.ii_i, DC.ss_s, l1, l2, l3, l4, e3, and_self, w, td, Int.toNat_natCast, List.append_assoc, List.singleton_append, List.cons_append, List.nil_append, beq_self_eq_true, u34, u92, u8', u9, u10, u12, u13, u127, u32, wb]
    | false =>
      simp only [decide_true, decide_false, h34, h92, h8, h9, h10, h12, h13, d, h32, h127, or_self, if_true, Bool.false_eq_true, if_false, Out.andThen_norm, Out.andThenB_norm, List.getD_cons_zero, List.getD_cons_succ, DC.bb_b, DC.ii_i, DC.ss_s, l1, l2, l3, l4, e3, and_self, w, td, Int.toNat_natCast, List.append_assoc, List.singleton_append, List.cons_append, List.nil_append, beq_self_eq_true, u34, u92, u8', u9, u10, u12, u13, u127, u32, wb]
theorem spec_Escaped (s : List UInt8) (hs : s.length ≤ 1048576) : r_spec_Escaped [.s s] = .ret [.s (escaped s)] := by
  rw [eq_spec_Escaped]
  simp only [E_spec_Escaped, List.getD_cons_zero, List.getD_cons_succ, DC.bb_b, DC.ii_i, DC.ss_s, spec_TextOk s hs, Out.bindR_ret]
  cases hv : Lib.validD s with
  | false =>
    have he : escaped s = [] := by unfold escaped; rw [if_neg (by rw [hv]; simp)]
    rw [he]
    simp
  | true =>
    rcases Nat.lt_or_ge 200 s.length with h | h
    · have e : decide ((s.length : Int) > 200) = true := decide_eq_true (by omega)
      have he : escaped s = [] := by unfold escaped; rw [if_neg (by omega)]
      rw [he]
      simp only [e, Bool.not_true, Bool.false_eq_true, if_false, if_true, Out.andThen_norm, List.getD_cons_zero, List.getD_cons_succ, DC.bb_b]
    · have e : decide ((s.length : Int) > 200) = false := decide_eq_false (by omega)
      have he : escaped s = 34 :: (escs s ++ [34]) := by unfold escaped; rw [if_pos ⟨hv, h⟩]
      rw [he]
      simp only [e, Bool.not_true, Bool.false_eq_true, if_false, if_true, Out.andThen_norm, List.getD_cons_zero, List.getD_cons_succ, DC.bb_b, DC.ss_s]
      have key := Loop_upto (F := E_spec_EscapedL1) (st := fun i => [.s s, .s (34 :: escs (s.take i)), .i (i : Int)]) (o := .ex 0 [.s (34 :: escs s)]) s.length 0 (fun j _ hj => ?step) ?fin
      · have k2 : Loop E_spec_EscapedL1 [.s s, .s [34], .i 0] = .ex 0 [.s (34 :: escs s)] := key
        have hl := escs_len s
        have L : (34 :: escs s).length + [(34 : UInt8)].length < LIM := Nat.lt_of_le_of_lt (show _ ≤ 2010 by simp; omega) (by decide)
        rw [k2]
        simp only [Out.andThenB_ex, if_true, List.getD_cons_zero, DC.ss_s, L, List.cons_append]
      case step =>
        have hj' : j < s.length := by omega
        have hl := escs_len (s.take j)
        rw [List.length_take] at hl
        rw [spec_Escaped_step s _ j h hj' (by simp; omega)]
        congr 4
        rw [List.take_succ_eq_append_getElem hj', escs, escs, List.flatMap_append, List.flatMap_singleton, List.getD_eq_getElem?_getD, List.getElem?_eq_getElem hj']
        rfl
      case fin =>
        have e : decide ((s.length : Int) < (s.length : Int)) = false := decide_eq_false (by omega)
        rw [Nat.zero_add]
        refine Loop_ex ?_
        simp only [E_spec_EscapedL1, List.getD_cons_zero, List.getD_cons_succ, DC.ii_i, DC.ss_s, e, Bool.false_eq_true, if_false, List.take_length]
def brows (l : List UInt8) : List (List DC) := l.map fun x => [.i (x.toNat : Int)]
theorem brows_app (l m : List UInt8) : brows (l ++ m) = brows l ++ brows m := List.map_append
theorem brows_len (l : List UInt8) : (brows l).length = l.length := List.length_map _
theorem rowBytes_rows : ∀ l : List UInt8, rowBytes (brows l) = l
  | [] => rfl
  | x :: l => by
    have := rowBytes_rows l
    unfold rowBytes brows at *
    rw [List.map_cons, List.map_cons, this]
    congr 1
    show UInt8.ofNat ((x.toNat : Int)).toNat = x
    rw [Int.toNat_natCast]
    exact UInt8.ofNat_toNat
theorem strings_IndexByte (l : List UInt8) (b : UInt8) : r_strings_IndexByte [.s l, .i (b.toNat : Int)] = .ret [.i (Lib.indexByte l b)] := by
  rw [eq_strings_IndexByte]
  simp only [E_strings_IndexByte, List.getD_cons_zero, List.getD_cons_succ, DC.bb_b, DC.ii_i, DC.ss_s]
  rw [eq_internal_stringslite_IndexByte]
  have : E_internal_stringslite_IndexByte [.s l, .i (b.toNat : Int)] = .ret [.i (Lib.indexByte l ((b.toNat : Int)).toNat.toUInt8)] := by
    unfold E_internal_stringslite_IndexByte primH
    have hh : hintLit [.s, .i .u8] h_internal_stringslite_IndexByte = true := rfl
    have hq : qIndexByte [.s l, .i (b.toNat : Int)] = some [.i (Lib.indexByte l ((b.toNat : Int)).toNat.toUInt8)] := rfl
    rw [hh, hq]
    rfl
  have hb : ((b.toNat : Int)).toNat.toUInt8 = b := by simp
  rw [this, hb]
  rfl
theorem impl_Escaped_step (s out : List UInt8) (i : Nat) (hs : s.length ≤ 200) (hi : i < s.length) (ho : out.length ≤ 2000) :
    E_impl_EscapedL1 [.s s, .sl (brows out), .i (s.length : Int), .i (i : Int)] = .norm [.s s, .sl (brows (out ++ esc (s.getD i 0))), .i (s.length : Int), .i ((i + 1 : Nat) : Int)] := by
  have e1 : decide ((i : Int) < (s.length : Int)) = true := decide_eq_true (by omega)
  have e2 : 0 ≤ (i : Int) ∧ (i : Int) < (s.length : Int) := by omega
  have w := wrap_succ hi (show s.length ≤ 9223372036854775807 by omega)
  have L : ∀ k, k ≤ 2010 → k < LIM := fun k hk => Nat.lt_of_le_of_lt hk (by decide)
  have hb := (s.getD i 0).toNat_lt
  rw [brows_app]
  simp only [E_impl_EscapedL1, List.getD_cons_zero, List.getD_cons_succ, DC.bb_b, DC.ii_i, DC.ss_s, DC.ll_sl, e1, e2, if_true, and_self, decide_true, Int.toNat_natCast, w, strings_IndexByte, Out.bindR_ret]
  generalize s.getD i 0 = b at *
  have u127 : ((b.toNat : Int) == 127) = (b == 127) := u8_eq b 127 (by omega)
  have u32 : decide ((b.toNat : Int) < 32) = decide (b.toNat < 32) := by rw [Bool.eq_iff_iff, decide_eq_true_eq, decide_eq_true_eq]; omega
  have l1 : ∀ x : List DC, (brows out).length + [x].length < LIM := fun x => L _ (by rw [brows_len]; simp; omega)
  have l2 : ∀ x y : List DC, (brows out).length + [x, y].length < LIM := fun x y => L _ (by rw [brows_len]; simp; omega)
  have l6 : ∀ x y z u v q : List DC, (brows out).length + [x, y, z, u, v, q].length < LIM := fun x y z u v q => L _ (by rw [brows_len]; simp; omega)
  unfold esc
  cases h34 : b == 34 with
  | true =>
    rw [beq_iff_eq] at h34
    subst h34
    have g0 : Lib.indexByte [34, 92, 8, 9, 10, 12, 13] 34 = 0 := by decide
    have g1 : decide ((0 : Int) ≥ 0) = true := rfl
    have g2 : (0 ≤ (0 : Int) ∧ (0 : Int) < (([34, 92, 98, 116, 110, 102, 114] : List UInt8).length : Int)) = True := by simp
    have g3 : ([34, 92, 98, 116, 110, 102, 114] : List UInt8).getD (0 : Int).toNat 0 = 34 := rfl
    simp only [g0, g1, g2, g3, if_true, Bool.false_eq_true, if_false, Out.andThen_norm, Out.andThenB_norm, List.getD_cons_zero, List.getD_cons_succ, DC.bb_b, DC.ii_i, DC.ss_s, DC.ll_sl, l1, l2, l6, and_self, w, Int.toNat_natCast]
    rfl
  | false =>
  cases h92 : b == 92 with
  | true =>
    rw [beq_iff_eq] at h92
    subst h92
    have g0 : Lib.indexByte [34, 92, 8, 9, 10, 12, 13] 92 = 1 := by decide
    have g1 : decide ((1 : Int) ≥ 0) = true := rfl
    have g2 : (0 ≤ (1 : Int) ∧ (1 : Int) < (([34, 92, 98, 116, 110, 102, 114] : List UInt8).length : Int)) = True := by simp
    have g3 : ([34, 92, 98, 116, 110, 102, 114] : List UInt8).getD (1 : Int).toNat 0 = 92 := rfl
    simp only [g0, g1, g2, g3, if_true, Bool.false_eq_true, if_false, Out.andThen_norm, Out.andThenB_norm, List.getD_cons_zero, List.getD_cons_succ, DC.bb_b, DC.ii_i, DC.ss_s, DC.ll_sl, l1, l2, l6, and_self, w, Int.toNat_natCast, h34]
    rfl
  | false =>
  cases h8 : b == 8 with
  | true =>
    rw [beq_iff_eq] at h8
    subst h8
    have g0 : Lib.indexByte [34, 92, 8, 9, 10, 12, 13] 8 = 2 := by decide
    have g1 : decide ((2 : Int) ≥ 0) = true := rfl
    have g2 : (0 ≤ (2 : Int) ∧ (2 : Int) < (([34, 92, 98, 116, 110, 102, 114] : List UInt8).length : Int)) = True := by simp
    have g3 : ([34, 92, 98, 116, 110, 102, 114] : List UInt8).getD (2 : Int).toNat 0 = 98 := rfl
    simp only [g0, g1, g2, g3, if_true, Bool.false_eq_true, if_false, Out.andThen_norm, Out.andThenB_norm, List.getD_cons_zero, List.getD_cons_succ, DC.bb_b, DC.ii_i, DC.ss_s, DC.ll_sl, l1, l2, l6, and_self, w, Int.toNat_natCast, h34, h92]
    rfl
  | false =>
  cases h9 : b == 9 with
  | true =>
    rw [beq_iff_eq] at h9
    subst h9
    have g0 : Lib.indexByte [34, 92, 8, 9, 10, 12, 13] 9 = 3 := by decide
    have g1 : decide ((3 : Int) ≥ 0) = true := rfl
    have g2 : (0 ≤ (3 : Int) ∧ (3 : Int) < (([34, 92, 98, 116, 110, 102, 114] : List UInt8).length : Int)) = True := by simp
    have g3 : ([34, 92, 98, 116, 110, 102, 114] : List UInt8).getD (3 : Int).toNat 0 = 116 := rfl
    simp only [g0, g1, g2, g3, if_true, Bool.false_eq_true, if_false, Out.andThen_norm, Out.andThenB_norm, List.getD_cons_zero, List.getD_cons_succ, DC.bb_b, DC.ii_i, DC.ss_s, DC.ll_sl, l1, l2, l6, and_self, w, Int.toNat_natCast, h34, h92, h8]
    rfl
  | false =>
  cases h10 : b == 10 with
  | true =>
    rw [beq_iff_eq] at h10
    subst h10
    have g0 : Lib.indexByte [34, 92, 8, 9, 10, 12, 13] 10 = 4 := by decide
    have g1 : decide ((4 : Int) ≥ 0) = true := rfl
    have g2 : (0 ≤ (4 : Int) ∧ (4 : Int) < (([34, 92, 98, 116, 110, 102, 114] : List UInt8).length : Int)) = True := by simp
    have g3 : ([34, 92, 98, 116, 110, 102, 114] : List UInt8).getD (4 : Int).toNat 0 = 110 := rfl
    simp only [g0, g1, g2, g3, if_true, Bool.false_eq_true, if_false, Out.andThen_norm, Out.andThenB_norm, List.getD_cons_zero, List.getD_cons_succ, DC.bb_b, DC.ii_i, DC.ss_s, DC.ll_sl, l1, l2, l6, and_self, w, Int.toNat_natCast, h34, h92, h8, h9]
    rfl
  | false =>
  cases h12 : b == 12 with
  | true =>
    rw [beq_iff_eq] at h12
    subst h12
    have g0 : Lib.indexByte [34, 92, 8, 9, 10, 12, 13] 12 = 5 := by decide
    have g1 : decide ((5 : Int) ≥ 0) = true := rfl
    have g2 : (0 ≤ (5 : Int) ∧ (5 : Int) < (([34, 92, 98, 116, 110, 102, 114] : List UInt8).length : Int)) = True := by simp
    have g3 : ([34, 92, 98, 116, 110, 102, 114] : List UInt8).getD (5 : Int).toNat 0 = 102 := rfl
    simp only [g0, g1, g2, g3, if_true, Bool.false_eq_true, if_false, Out.andThen_norm, Out.andThenB_norm, List.getD_cons_zero, List.getD_cons_succ, DC.bb_b, DC.ii_i, DC.ss_s, DC.ll_sl, l1, l2, l6, and_self, w, Int.toNat_natCast, h34, h92, h8, h9, h10]
    rfl
  | false =>
  cases h13 : b == 13 with
  | true =>
    rw [beq_iff_eq] at h13
    subst h13
    have g0 : Lib.indexByte [34, 92, 8, 9, 10, 12, 13] 13 = 6 := by decide
    have g1 : decide ((6 : Int) ≥ 0) = true := rfl
    have g2 : (0 ≤ (6 : Int) ∧ (6 : Int) < (([34, 92, 98, 116, 110, 102, 114] : List UInt8).length : Int)) = True := by simp
    have g3 : ([34, 92, 98, 116, 110, 102, 114] : List UInt8).getD (6 : Int).toNat 0 = 114 := rfl
    simp only [g0, g1, g2, g3, if_true, Bool.false_eq_true, if_false, Out.andThen_norm, Out.andThenB_norm, List.getD_cons_zero, List.getD_cons_succ, DC.bb_b, DC.ii_i, DC.ss_s, DC.ll_sl, l1, l2, l6, and_self, w, Int.toNat_natCast, h34, h92, h8, h9, h10, h12]
    rfl
  | false =>
  have cm : ∀ c : UInt8, (c == b) = (b == c) := fun c => by rw [Bool.eq_iff_iff, beq_iff_eq, beq_iff_eq]; exact ⟨Eq.symm, Eq.symm⟩
  have g0 : Lib.indexByte [34, 92, 8, 9, 10, 12, 13] b = -1 := by
    simp only [Lib.indexByte, cm, h34, h92, h8, h9, h10, h12, h13, Bool.false_eq_true, if_false, beq_self_eq_true, if_true]
  have g1 : decide ((-1 : Int) ≥ 0) = false := rfl
  have q1 := shr4 ⟨b.toNat, hb⟩
  have q2 := and15 ⟨b.toNat, hb⟩
  have q3 : (0 ≤ ((b.toNat / 16 : Nat) : Int) ∧ ((b.toNat / 16 : Nat) : Int) < (([48, 49, 50, 51, 52, 53, 54, 55, 56, 57, 97, 98, 99, 100, 101, 102] : List UInt8).length : Int)) = True := by
    simp only [List.length_cons, List.length_nil, eq_iff_iff, iff_true]
    omega
  have q4 : (0 ≤ ((b.toNat % 16 : Nat) : Int) ∧ ((b.toNat % 16 : Nat) : Int) < (([48, 49, 50, 51, 52, 53, 54, 55, 56, 57, 97, 98, 99, 100, 101, 102] : List UInt8).length : Int)) = True := by
    simp only [List.length_cons, List.length_nil, eq_iff_iff, iff_true]
    omega
  have q5 : ¬ (4 : Int) < 0 := by decide
  by_cases h32 : b.toNat < 32
  · have d : decide (b.toNat < 32) = true := decide_eq_true h32
    simp only [g0, g1, u32, d, h32, decide_true, true_or, q1, q2, q3, q4, q5, h34, h92, h8, h9, h10, h12, h13, if_true, Bool.false_eq_true, if_false, Out.andThen_norm, Out.andThenB_norm, List.getD_cons_zero, List.getD_cons_succ, DC.bb_b, DC.ii_i, DC.ss_s, DC.ll_sl, l1, l2, l6, and_self, w, Int.toNat_natCast]
    rfl
  · have d : decide (b.toNat < 32) = false := decide_eq_false h32
    cases h127 : b == 127 with
    | true =>
      simp only [g0, g1, u32, u127, d, h32, h127, decide_false, or_true, q1, q2, q3, q4, q5, h34, h92, h8, h9, h10, h12, h13, if_true, Bool.false_eq_true, if_false, Out.andThen_norm, Out.andThenB_norm, List.getD_cons_zero, List.getD_cons_succ, DC.bb_b, DC.ii_i, DC.ss_s, DC.ll_sl, l1, l2, l6, and_self, w, Int.toNat_natCast]
      rfl
    | false =>
      simp only [g0, g1, u32, u127, d, h32, h127, decide_false, or_self, h34, h92, h8, h9, h10, h12, h13, if_true, Bool.false_eq_true, if_false, Out.andThen_norm, Out.andThenB_norm, List.getD_cons_zero, List.getD_cons_succ, DC.bb_b, DC.ii_i, DC.ss_s, DC.ll_sl, l1, l2, l6, and_self, w, Int.toNat_natCast]
      rfl
theorem impl_Escaped (s : List UInt8) (hs : s.length ≤ 1048576) : r_impl_Escaped [.s s] = .ret [.s (escaped s)] := by
  rw [eq_impl_Escaped]
  simp only [E_impl_Escaped, List.getD_cons_zero, List.getD_cons_succ, DC.bb_b, DC.ii_i, DC.ss_s, impl_TextOk s hs, Out.bindR_ret]
  cases hv : Lib.validD s with
  | false =>
    have he : escaped s = [] := by unfold escaped; rw [if_neg (by rw [hv]; simp)]
    rw [he]
    simp
  | true =>
    rcases Nat.lt_or_ge 200 s.length with h | h
    · have e : decide ((s.length : Int) > 200) = true := decide_eq_true (by omega)
      have he : escaped s = [] := by unfold escaped; rw [if_neg (by omega)]
      rw [he]
      simp only [e, Bool.not_true, Bool.false_eq_true, if_false, if_true, Out.andThen_norm, List.getD_cons_zero, List.getD_cons_succ, DC.bb_b]
    · have e : decide ((s.length : Int) > 200) = false := decide_eq_false (by omega)
      have he : escaped s = 34 :: (escs s ++ [34]) := by unfold escaped; rw [if_pos ⟨hv, h⟩]
      rw [he]
      simp only [e, Bool.not_true, Bool.false_eq_true, if_false, if_true, Out.andThen_norm, List.getD_cons_zero, List.getD_cons_succ, DC.bb_b, DC.ss_s]
      have key := Loop_upto (F := E_impl_EscapedL1) (st := fun i => [.s s, .sl (brows (34 :: escs (s.take i))), .i (s.length : Int), .i (i : Int)]) (o := .ex 0 [.sl (brows (34 :: escs s))]) s.length 0 (fun j _ hj => ?step) ?fin
      · have k2 : Loop E_impl_EscapedL1 [.s s, .sl [[.i 34]], .i (s.length : Int), .i 0] = .ex 0 [.sl (brows (34 :: escs s))] := key
        have hl := escs_len s
        have L : (brows (34 :: escs s)).length + [[DC.i (34 : Int)]].length < LIM := Nat.lt_of_le_of_lt (show _ ≤ 2010 by rw [brows_len]; simp; omega) (by decide)
        rw [k2]
        simp only [Out.andThenB_ex, if_true, List.getD_cons_zero, DC.ll_sl, L]
        have : brows (34 :: escs s) ++ [[DC.i (34 : Int)]] = brows (34 :: (escs s ++ [34])) := (brows_app (34 :: escs s) [34]).symm
        rw [this, rowBytes_rows]
      case step =>
        have hj' : j < s.length := by omega
        have hl := escs_len (s.take j)
        rw [List.length_take] at hl
        rw [impl_Escaped_step s _ j h hj' (by simp; omega)]
        congr 5
        rw [List.take_succ_eq_append_getElem hj', escs, escs, List.flatMap_append, List.flatMap_singleton, List.getD_eq_getElem?_getD, List.getElem?_eq_getElem hj']
        rfl
      case fin =>
        have e : decide ((s.length : Int) < (s.length : Int)) = false := decide_eq_false (by omega)
        rw [Nat.zero_add]
        refine Loop_ex ?_
        simp only [E_impl_EscapedL1, List.getD_cons_zero, List.getD_cons_succ, DC.ii_i, DC.ss_s, DC.ll_sl, e, Bool.false_eq_true, if_false, List.take_length]
def letr (b : UInt8) : Bool := (decide (97 ≤ b.toNat) && decide (b.toNat ≤ 122)) || (decide (65 ≤ b.toNat) && decide (b.toNat ≤ 90))
def nmC (b : UInt8) : Bool := letr b || (isFig b || b == 95)
theorem spec_l03Letter (b : UInt8) : r_spec_l03Letter [.i (b.toNat : Int)] = .ret [.b (letr b || b == 95)] := by
  rw [eq_spec_l03Letter]
  have u : ((b.toNat : Int) == 95) = (b == 95) := u8_eq b 95 (by omega)
  have a1 : decide ((b.toNat : Int) ≥ 97) = decide (97 ≤ b.toNat) := by rw [Bool.eq_iff_iff, decide_eq_true_eq, decide_eq_true_eq]; omega
  have a2 : decide ((b.toNat : Int) ≤ 122) = decide (b.toNat ≤ 122) := by rw [Bool.eq_iff_iff, decide_eq_true_eq, decide_eq_true_eq]; omega
  have a3 : decide ((b.toNat : Int) ≥ 65) = decide (65 ≤ b.toNat) := by rw [Bool.eq_iff_iff, decide_eq_true_eq, decide_eq_true_eq]; omega
  have a4 : decide ((b.toNat : Int) ≤ 90) = decide (b.toNat ≤ 90) := by rw [Bool.eq_iff_iff, decide_eq_true_eq, decide_eq_true_eq]; omega
  simp only [E_spec_l03Letter, List.getD_cons_zero, DC.ii_i, u, a1, a2, a3, a4, letr]
  cases decide (97 ≤ b.toNat) <;> cases decide (b.toNat ≤ 122) <;> cases decide (65 ≤ b.toNat) <;> cases decide (b.toNat ≤ 90) <;> rfl
theorem impl_isLetter (b : UInt8) : r_impl_isLetter [.i (b.toNat : Int)] = .ret [.b (letr b)] := by
  rw [eq_impl_isLetter]
  have a1 : decide ((b.toNat : Int) ≥ 97) = decide (97 ≤ b.toNat) := by rw [Bool.eq_iff_iff, decide_eq_true_eq, decide_eq_true_eq]; omega
  have a2 : decide ((b.toNat : Int) ≤ 122) = decide (b.toNat ≤ 122) := by rw [Bool.eq_iff_iff, decide_eq_true_eq, decide_eq_true_eq]; omega
  have a3 : decide ((b.toNat : Int) ≥ 65) = decide (65 ≤ b.toNat) := by rw [Bool.eq_iff_iff, decide_eq_true_eq, decide_eq_true_eq]; omega
  have a4 : decide ((b.toNat : Int) ≤ 90) = decide (b.toNat ≤ 90) := by rw [Bool.eq_iff_iff, decide_eq_true_eq, decide_eq_true_eq]; omega
  simp only [E_impl_isLetter, List.getD_cons_zero, DC.ii_i, a1, a2, a3, a4, letr]
  cases decide (97 ≤ b.toNat) <;> cases decide (b.toNat ≤ 122) <;> cases decide (65 ≤ b.toNat) <;> cases decide (b.toNat ≤ 90) <;> rfl
theorem impl_inName (b : UInt8) : r_impl_inName [.i (b.toNat : Int)] = .ret [.b (nmC b)] := by
  rw [eq_impl_inName]
  have u : ((b.toNat : Int) == 95) = (b == 95) := u8_eq b 95 (by omega)
  simp only [E_impl_inName, List.getD_cons_zero, DC.ii_i, u, impl_isLetter, impl_isFigure, Out.bindR_ret, DC.bb_b, nmC]
  cases letr b <;> cases isFig b <;> simp
theorem impl_in (n a b : Int) : r_impl_in [.i n, .i a, .i b] = .ret [.b (decide (a ≤ n) && decide (n ≤ b))] := by
  rw [eq_impl_in]
  simp only [E_impl_in, List.getD_cons_zero, List.getD_cons_succ, DC.bb_b, DC.ii_i]
  by_cases h : a ≤ n
  · have : decide (n ≥ a) = true := decide_eq_true h
    simp [this, h]
  · have : decide (n ≥ a) = false := decide_eq_false h
    simp [this, h]
def nameOk (s : List UInt8) : Bool := decide (0 < s.length) && (decide (s.length ≤ 30) && (!isFig (s.getD 0 0) && s.all nmC))
theorem spec_NameOk (s : List UInt8) (hs : s.length ≤ 1048576) : r_spec_NameOk [.s s] = .ret [.b (nameOk s)] := by
  rw [eq_spec_NameOk]
  have hl : Loop E_spec_NameOkL1 [.s s, .i 0] = if (s.any fun x => !nmC x) = true then .ret [.b false] else .ex 0 [] := by
    rw [show (0 : Int) = ((0 : Nat) : Int) from rfl, Loop_find0 (l := s) (st := fun i => [.s s, .i (i : Int)]) (p := fun x => !nmC x) (stop := fun i _ => .ret [.b false]) (fin := .ex 0 []) (fun i hi => ?step) (fun _ _ => Out.esc_ret _) ?fin (Out.esc_ex _ _), goF_any]
    case step =>
      have hg : s.getD i 0 = s[i] := by rw [List.getD_eq_getElem?_getD, List.getElem?_eq_getElem hi]; rfl
      have d : decide ((i : Int) < (s.length : Int)) = true := decide_eq_true (by omega)
      have c : 0 ≤ (i : Int) ∧ (i : Int) < (s.length : Int) := by omega
      simp only [E_spec_NameOkL1, List.getD_cons_zero, List.getD_cons_succ, DC.bb_b, DC.ii_i, DC.ss_s, Int.toNat_natCast, hg, d, c, if_true, and_self, decide_true, spec_l03Letter, spec_l03Figure, Out.bindR_ret]
      rcases Bool.eq_false_or_eq_true (letr s[i]) with h1 | h1 <;> rcases Bool.eq_false_or_eq_true (s[i] == 95) with h2 | h2 <;> rcases Bool.eq_false_or_eq_true (isFig s[i]) with h3 | h3 <;> simp [nmC, h1, h2, h3, wrap_succ hi (show s.length ≤ 9223372036854775807 by omega)]
    case fin => simp [E_spec_NameOkL1]
  rw [show (s.any fun x => !nmC x) = !(s.all nmC) by rw [List.not_all_eq_any_not]] at hl
  unfold nameOk
  cases s with
  | nil => simp [E_spec_NameOk]
  | cons a l =>
    have hz : (((a :: l).length : Int) == 0) = false := beq_eq_false_iff_ne.2 (by rw [List.length_cons]; omega)
    have h0 : 0 ≤ (0 : Int) ∧ (0 : Int) < ((a :: l).length : Int) := by simp
    have hg : (a :: l).getD (0 : Int).toNat 0 = a := rfl
    have hp : decide (0 < (a :: l).length) = true := by simp
    have hd : decide (((a :: l).length : Int) > 30) = !decide ((a :: l).length ≤ 30) := by
      rw [Bool.eq_iff_iff, Bool.not_eq_true', decide_eq_true_eq, decide_eq_false_iff_not]; omega
    have hg2 : (a :: l).getD 0 0 = a := rfl
    simp only [E_spec_NameOk, List.getD_cons_zero, List.getD_cons_succ, DC.bb_b, DC.ii_i, DC.ss_s, hz, h0, hg, hp, hd, spec_l03Figure, Out.bindR_ret, Bool.false_eq_true, if_false, if_true, and_self, Bool.true_and]
    generalize (a :: l).all nmC = q at *
    cases decide ((a :: l).length ≤ 30) with
    | false => simp
    | true =>
      cases isFig a with
      | true => simp
      | false =>
        simp only [Bool.not_true, Bool.false_eq_true, if_false, Out.andThen_norm, List.getD_cons_zero, List.getD_cons_succ, DC.bb_b, DC.ss_s, hl]
        cases q <;> simp
theorem impl_NameOk (s : List UInt8) (hs : s.length ≤ 1048576) : r_impl_NameOk [.s s] = .ret [.b (nameOk s)] := by
  rw [eq_impl_NameOk]
  have hl : Loop E_impl_NameOkL1 [.s s, .i (s.length : Int), .i 0] = if (s.any fun x => !nmC x) = true then .ret [.b false] else .ex 0 [] := by
    rw [show (0 : Int) = ((0 : Nat) : Int) from rfl, Loop_find0 (l := s) (st := fun i => [.s s, .i (s.length : Int), .i (i : Int)]) (p := fun x => !nmC x) (stop := fun i _ => .ret [.b false]) (fin := .ex 0 []) (fun i hi => ?step) (fun _ _ => Out.esc_ret _) ?fin (Out.esc_ex _ _), goF_any]
    case step =>
      have hg : s.getD i 0 = s[i] := by rw [List.getD_eq_getElem?_getD, List.getElem?_eq_getElem hi]; rfl
      have d : decide ((i : Int) < (s.length : Int)) = true := decide_eq_true (by omega)
      have c : 0 ≤ (i : Int) ∧ (i : Int) < (s.length : Int) := by omega
      simp only [E_impl_NameOkL1, List.getD_cons_zero, List.getD_cons_succ, DC.bb_b, DC.ii_i, DC.ss_s, Int.toNat_natCast, hg, d, c, if_true, and_self, decide_true, impl_inName, Out.bindR_ret]
      cases nmC s[i] <;> simp [wrap_succ hi (show s.length ≤ 9223372036854775807 by omega)]
    case fin => simp [E_impl_NameOkL1]
  rw [show (s.any fun x => !nmC x) = !(s.all nmC) by rw [List.not_all_eq_any_not]] at hl
  unfold nameOk
  cases s with
  | nil =>
    simp only [E_impl_NameOk, List.getD_cons_zero, DC.ss_s, impl_in]
    simp
  | cons a l =>
    have h0 : 0 ≤ (0 : Int) ∧ (0 : Int) < ((a :: l).length : Int) := by simp
    have hg : (a :: l).getD (0 : Int).toNat 0 = a := rfl
    have hp : decide (0 < (a :: l).length) = true := by simp
    have hp2 : decide ((1 : Int) ≤ ((a :: l).length : Int)) = true := decide_eq_true (by rw [List.length_cons]; omega)
    have hd : decide (((a :: l).length : Int) ≤ 30) = decide ((a :: l).length ≤ 30) := by
      rw [Bool.eq_iff_iff, decide_eq_true_eq, decide_eq_true_eq]; omega
    have hg2 : (a :: l).getD 0 0 = a := rfl
    simp only [E_impl_NameOk, List.getD_cons_zero, List.getD_cons_succ, DC.bb_b, DC.ii_i, DC.ss_s, impl_in, h0, hg, hp, hp2, hd, impl_isFigure, Out.bindR_ret, Bool.false_eq_true, if_false, if_true, and_self, Bool.true_and]
    generalize (a :: l).all nmC = q at *
    cases decide ((a :: l).length ≤ 30) with
    | false => simp
    | true =>
      cases isFig a with
      | true => simp
      | false =>
        simp only [Bool.not_true, Bool.false_eq_true, if_false, Out.andThen_norm, List.getD_cons_zero, List.getD_cons_succ, DC.bb_b, DC.ss_s, hl]
        cases q <;> simp
def word (s : List UInt8) : Bool := s == [116, 114, 117, 101] || (s == [102, 97, 108, 115, 101] || s == [110, 117, 108, 108])
theorem spec_Word (s : List UInt8) : r_spec_Word [.s s] = .ret [.b (word s)] := by
  rw [eq_spec_Word]
  simp only [E_spec_Word, List.getD_cons_zero, DC.ss_s, word]
  cases s == [116, 114, 117, 101] <;> cases s == [102, 97, 108, 115, 101] <;> simp
theorem impl_Word (s : List UInt8) : r_impl_Word [.s s] = .ret [.b (word s)] := by
  rw [eq_impl_Word]
  simp only [E_impl_Word, List.getD_cons_zero, DC.ss_s, word]
  cases s == [116, 114, 117, 101] <;> cases s == [102, 97, 108, 115, 101] <;> simp
def wr (c : UInt8) : Bool := c == 93 || c == 33
open Classical in
noncomputable def goodV (room : Int) (v : TValue) : Bool := decide (r_spec_l07Right [.i v.kind, .s v.text, .sl (v.items.map TValue.enc), .sl (v.names.map S1), .i room] = .ret [.b true])
def sameV (room : Int) (v : TValue) : Prop := r_spec_l07Right [.i v.kind, .s v.text, .sl (v.items.map TValue.enc), .sl (v.names.map S1), .i room] = .ret [.b (goodV room v)] ∧
  r_impl_valueOk [.i v.kind, .s v.text, .sl (v.items.map TValue.enc), .sl (v.names.map S1), .i room] = .ret [.b (goodV room v)]
theorem sameV_of {room : Int} {v : TValue} (b : Bool) (h1 : r_spec_l07Right [.i v.kind, .s v.text, .sl (v.items.map TValue.enc), .sl (v.names.map S1), .i room] = .ret [.b b])
    (h2 : r_impl_valueOk [.i v.kind, .s v.text, .sl (v.items.map TValue.enc), .sl (v.names.map S1), .i room] = .ret [.b b]) : sameV room v := by
  have : goodV room v = b := by
    unfold goodV
    rw [h1]
    cases b <;> simp
  unfold sameV
  rw [this]
  exact ⟨h1, h2⟩
theorem val_loop6 (room K : Int) (hK : K ≠ 8) (T : List UInt8) (I : List TValue) (N : List (List DC)) (hI : I.length ≤ 1048576) (hr : 0 < room) (hr2 : room ≤ 10) (h : ∀ x ∈ I, sameV (room - 1) x) :
    Loop E_spec_l07RightL1 [.i room, .i 0, .i K, .s T, .sl (I.map TValue.enc), .sl N] = if I.all (goodV (room - 1)) = true then .ex 0 [] else .ret [.b false] := by
  rw [show (0 : Int) = ((0 : Nat) : Int) from rfl, Loop_find0 (l := I) (st := fun i => [.i room, .i (i : Int), .i K, .s T, .sl (I.map TValue.enc), .sl N]) (p := fun x => !goodV (room - 1) x) (stop := fun i _ => .ret [.b false]) (fin := .ex 0 []) (fun i hi => ?step) (fun _ _ => Out.esc_ret _) ?fin (Out.esc_ex _ _), goF_any]
  · have e : (I.any fun x => !goodV (room - 1) x) = !(I.all (goodV (room - 1))) := by rw [List.not_all_eq_any_not]
    rw [e]
    cases I.all (goodV (room - 1)) <;> simp
  case step =>
    have hx := (h I[i] (List.getElem_mem hi)).1
    have w : IntKind.i64.wrap (room - 1) = room - 1 := wrap64 (by omega) (by omega)
    have hk : (K == 8) = false := beq_eq_false_iff_ne.2 hK
    have c : 0 ≤ (i : Int) ∧ (i : Int) < (I.length : Int) := by omega
    have d : decide ((i : Int) < (I.length : Int)) = true := decide_eq_true (by omega)
    simp only [E_spec_l07RightL1, List.getD_cons_zero, List.getD_cons_succ, DC.bb_b, DC.ii_i, DC.ss_s, DC.ll_sl, Int.toNat_natCast, List.length_map, map_getD hi, TValue.enc_eq, hk, d, c, w, hx, Out.bindR_ret, Out.andThen_norm, true_and, and_self, Bool.false_eq_true, if_false, if_true, decide_true]
    cases goodV (room - 1) I[i] <;> simp [wrap_succ hi (show I.length ≤ 9223372036854775807 by omega)]
  case fin => simp [E_spec_l07RightL1]
theorem val_loop7 (room : Int) (T : List UInt8) (I : List TValue) (N : List (List UInt8)) (hI : I.length ≤ 1048576) (hN : N.length = I.length) (hns : ∀ n ∈ N, n.length ≤ 1048576) (hr : 0 < room) (hr2 : room ≤ 10) (h : ∀ x ∈ I, sameV (room - 1) x) :
    Loop E_spec_l07RightL1 [.i room, .i 0, .i 8, .s T, .sl (I.map TValue.enc), .sl (N.map S1)] = if (I.all (goodV (room - 1)) && N.all nameOk) = true then .ex 0 [] else .ret [.b false] := by
  have hzl : (I.zip N).length = I.length := by rw [List.length_zip]; omega
  rw [show (0 : Int) = ((0 : Nat) : Int) from rfl, Loop_find0 (l := I.zip N) (st := fun i => [.i room, .i (i : Int), .i 8, .s T, .sl (I.map TValue.enc), .sl (N.map S1)]) (p := fun x => !nameOk x.2 || !goodV (room - 1) x.1) (stop := fun i _ => .ret [.b false]) (fin := .ex 0 []) (fun i hi => ?step) (fun _ _ => Out.esc_ret _) ?fin (Out.esc_ex _ _), goF_any]
  · have e : ∀ (I : List TValue) (N : List (List UInt8)), N.length = I.length → ((I.zip N).any fun x => !nameOk x.2 || !goodV (room - 1) x.1) = !(I.all (goodV (room - 1)) && N.all nameOk) := by
      intro I
      induction I with
      | nil =>
        intro N hl
        cases N with
        | nil => rfl
        | cons _ _ => simp at hl
      | cons x I ih =>
        intro N hl
        cases N with
        | nil => simp at hl
        | cons n N =>
          rw [List.zip_cons_cons, List.any_cons, ih N (by simpa using hl), List.all_cons, List.all_cons]
          cases goodV (room - 1) x <;> cases nameOk n <;> cases I.all (goodV (room - 1)) <;> cases N.all nameOk <;> rfl
    rw [e I N hN]
    cases (I.all (goodV (room - 1)) && N.all nameOk) <;> simp
  case step =>
    have hi1 : i < I.length := by omega
    have hi2 : i < N.length := by omega
    have hx := (h I[i] (List.getElem_mem hi1)).1
    have hz : (I.zip N)[i] = (I[i], N[i]) := List.getElem_zip
    have w : IntKind.i64.wrap (room - 1) = room - 1 := wrap64 (by omega) (by omega)
    have c : 0 ≤ (i : Int) ∧ (i : Int) < (I.length : Int) := by omega
    have c2 : 0 ≤ (i : Int) ∧ (i : Int) < (N.length : Int) := by omega
    have d : decide ((i : Int) < (I.length : Int)) = true := decide_eq_true (by omega)
    have he := spec_NameOk N[i] (hns _ (List.getElem_mem hi2))
    simp only [E_spec_l07RightL1, List.getD_cons_zero, List.getD_cons_succ, DC.bb_b, DC.ii_i, DC.ss_s, DC.ll_sl, Int.toNat_natCast, List.length_map, map_getD hi1, map_getD hi2, S1, TValue.enc_eq, d, c, c2, w, hx, hz, he, Out.bindR_ret, Out.andThen_norm, true_and, and_self, Bool.false_eq_true, if_false, if_true, decide_true, beq_self_eq_true]
    cases nameOk N[i] <;> cases goodV (room - 1) I[i] <;> simp [wrap_succ hi1 (show I.length ≤ 9223372036854775807 by omega)]
  case fin => simp [E_spec_l07RightL1, hzl]
theorem val_names (N : List (List UInt8)) (hl : N.length ≤ 1048576) (hns : ∀ n ∈ N, n.length ≤ 1048576) : r_slices_ContainsFunc_string__impl_valueOk_1 [.sl (N.map S1)] = .ret [.b (!(N.all nameOk))] := by
  rw [eq_slices_ContainsFunc_string__impl_valueOk_1]
  simp only [E_slices_ContainsFunc_string__impl_valueOk_1, List.getD_cons_zero, DC.ll_sl]
  rw [eq_slices_IndexFunc_string__impl_valueOk_1]
  simp only [E_slices_IndexFunc_string__impl_valueOk_1, List.getD_cons_zero, DC.ll_sl, List.length_map]
  rw [show (0 : Int) = ((0 : Nat) : Int) from rfl, Loop_find0 (l := N) (st := fun i => [.sl (N.map S1), .i (N.length : Int), .i (i : Int)]) (p := fun n => !nameOk n) (stop := fun i _ => .ret [.i (i : Int)]) (fin := .ex 0 []) (fun i hi => ?step) (fun _ _ => Out.esc_ret _) ?fin (Out.esc_ex _ _), goF_idx]
  · rw [List.not_all_eq_any_not]
    cases hf : N.findIdx? fun n => !nameOk n with
    | none =>
      have : (N.any fun n => !nameOk n) = false := by
        rw [List.any_eq_false]
        intro x hx
        have := List.findIdx?_eq_none_iff.1 hf x hx
        simpa using this
      rw [this]
      simp
    | some j =>
      obtain ⟨hj, h1, h2⟩ := List.findIdx?_eq_some_iff_getElem.1 hf
      have : (N.any fun n => !nameOk n) = true := List.any_eq_true.2 ⟨N[j], List.getElem_mem hj, h1⟩
      rw [this]
      simp [hj]
  case step =>
    have c2 : 0 ≤ (i : Int) ∧ (i : Int) < (N.length : Int) := by omega
    have d : decide ((i : Int) < (N.length : Int)) = true := decide_eq_true (by omega)
    have he : r_impl_valueOk_1 [.s N[i]] = .ret [.b (!nameOk N[i])] := by
      rw [eq_impl_valueOk_1]
      simp only [E_impl_valueOk_1, List.getD_cons_zero, DC.ss_s, impl_NameOk _ (hns _ (List.getElem_mem hi)), Out.bindR_ret, DC.bb_b]
    simp only [E_slices_IndexFunc_string__impl_valueOk_1L1, List.getD_cons_zero, List.getD_cons_succ, DC.bb_b, DC.ii_i, DC.ss_s, DC.ll_sl, Int.toNat_natCast, List.length_map, map_getD hi, S1, d, c2, he, Out.bindR_ret, true_and, and_self, if_true]
    cases nameOk N[i] <;> simp [wrap_succ hi (show N.length ≤ 9223372036854775807 by omega)]
  case fin => simp [E_slices_IndexFunc_string__impl_valueOk_1L1]
theorem val_items (room : Int) (I : List TValue) (hl : I.length ≤ 1048576) (hr : 0 < room) (hr2 : room ≤ 10) (h : ∀ x ∈ I, sameV (room - 1) x) : r_slices_ContainsFunc_impl_Value__impl_valueOk_2 [.sl (I.map TValue.enc), .i room] = .ret [.b (!(I.all (goodV (room - 1)))), .i room] := by
  rw [eq_slices_ContainsFunc_impl_Value__impl_valueOk_2]
  simp only [E_slices_ContainsFunc_impl_Value__impl_valueOk_2, List.getD_cons_zero, List.getD_cons_succ, DC.ll_sl, DC.ii_i]
  rw [eq_slices_IndexFunc_impl_Value__impl_valueOk_2]
  simp only [E_slices_IndexFunc_impl_Value__impl_valueOk_2, List.getD_cons_zero, List.getD_cons_succ, DC.ll_sl, DC.ii_i, List.length_map]
  rw [show (0 : Int) = ((0 : Nat) : Int) from rfl, Loop_find0 (l := I) (st := fun i => [.sl (I.map TValue.enc), .i (I.length : Int), .i (i : Int), .i room]) (p := fun n => !goodV (room - 1) n) (stop := fun i _ => .ret [.i (i : Int), .i room]) (fin := .ex 0 [.i room]) (fun i hi => ?step) (fun _ _ => Out.esc_ret _) ?fin (Out.esc_ex _ _), goF_idx]
  · rw [List.not_all_eq_any_not]
    cases hf : I.findIdx? fun n => !goodV (room - 1) n with
    | none =>
      have : (I.any fun n => !goodV (room - 1) n) = false := by
        rw [List.any_eq_false]
        intro x hx
        have := List.findIdx?_eq_none_iff.1 hf x hx
        simpa using this
      rw [this]
      simp
    | some j =>
      obtain ⟨hj, h1, h2⟩ := List.findIdx?_eq_some_iff_getElem.1 hf
      have : (I.any fun n => !goodV (room - 1) n) = true := List.any_eq_true.2 ⟨I[j], List.getElem_mem hj, h1⟩
      rw [this]
      simp [hj]
  case step =>
    have c2 : 0 ≤ (i : Int) ∧ (i : Int) < (I.length : Int) := by omega
    have d : decide ((i : Int) < (I.length : Int)) = true := decide_eq_true (by omega)
    have hx := (h I[i] (List.getElem_mem hi)).2
    have w : IntKind.i64.wrap (room - 1) = room - 1 := wrap64 (by omega) (by omega)
    have he : r_impl_valueOk_2 [.i I[i].kind, .s I[i].text, .sl (I[i].items.map TValue.enc), .sl (I[i].names.map S1), .i room] = .ret [.b (!goodV (room - 1) I[i]), .i room] := by
      rw [eq_impl_valueOk_2]
      simp only [E_impl_valueOk_2, List.getD_cons_zero, List.getD_cons_succ, DC.ii_i, DC.ss_s, DC.ll_sl, w, hx, Out.bindR_ret, DC.bb_b]
    simp only [E_slices_IndexFunc_impl_Value__impl_valueOk_2L1, List.getD_cons_zero, List.getD_cons_succ, DC.bb_b, DC.ii_i, DC.ss_s, DC.ll_sl, Int.toNat_natCast, List.length_map, map_getD hi, TValue.enc_eq, d, c2, he, Out.bindR_ret, true_and, and_self, if_true]
    cases goodV (room - 1) I[i] <;> simp [wrap_succ hi (show I.length ≤ 9223372036854775807 by omega)]
  case fin => simp [E_slices_IndexFunc_impl_Value__impl_valueOk_2L1]
theorem val_wsum (v : TValue) : wtL v.enc = v.text.length + (DC.wt (.sl (v.items.map TValue.enc)) + DC.wt (.sl (v.names.map S1))) := by
  rw [TValue.enc_eq]
  simp only [wtL, DC.wt]
  omega
theorem strs_len {l : List (List UInt8)} (h : DC.wt (.sl (l.map S1)) ≤ 1048576) : l.length ≤ 1048576 ∧ ∀ n ∈ l, n.length ≤ 1048576 := by
  rw [DC.wt, List.length_map] at h
  refine ⟨by omega, fun n hn => ?_⟩
  have := wtV_mem (List.mem_map_of_mem (f := S1) hn)
  have e : wtL (S1 n) = n.length := by simp [S1, wtL, DC.wt]
  omega
theorem val_loop0 (room K : Int) (T : List UInt8) (N : List (List DC)) : Loop E_spec_l07RightL1 [.i room, .i 0, .i K, .s T, .sl [], .sl N] = .ex 0 [] := Loop_ex (by simp [E_spec_l07RightL1])
def oneV (K : Int) (T : List UInt8) : Bool := (K == 1 && nameOk T) || ((K == 2 && intOk T) || ((K == 3 && floatI T) || ((K == 4 && !(escaped T == [])) || ((K == 5 && word T) || ((K == 6 && (nameOk T && !word T)) || ((K == 7 || K == 8) && T == []))))))
theorem spec_One (K : Int) (T : List UInt8) (I N : List (List DC)) (hT : T.length ≤ 1048576) : r_spec_l07One [.i K, .s T, .sl I, .sl N] = .ret [.b (oneV K T)] := by
  rw [eq_spec_l07One]
  simp only [E_spec_l07One, List.getD_cons_zero, List.getD_cons_succ, DC.ii_i, DC.ss_s, DC.ll_sl, DC.bb_b, spec_NameOk T hT, spec_IntOk T hT, spec_FloatOk T hT, spec_Escaped T hT, spec_Word, float_eq, Out.bindR_ret]
  unfold oneV
  by_cases k1 : K = 1
  · subst k1; simp
  by_cases k2 : K = 2
  · subst k2; simp
  by_cases k3 : K = 3
  · subst k3; simp
  by_cases k4 : K = 4
  · subst k4; simp
  by_cases k5 : K = 5
  · subst k5; simp
  by_cases k6 : K = 6
  · subst k6; cases nameOk T <;> simp
  by_cases k7 : K = 7
  · subst k7; simp
  by_cases k8 : K = 8
  · subst k8; simp
  simp [k1, k2, k3, k4, k5, k6, k7, k8]
theorem impl_plain (K : Int) (T : List UInt8) (I N : List (List DC)) : r_impl_plain [.i K, .s T, .sl I, .sl N] = .ret [.b (I.isEmpty && N.isEmpty)] := by
  rw [eq_impl_plain]
  have z1 : ∀ n : Nat, ((n : Int) + 1 = 0) = False := fun n => by simp; omega
  have z2 : ∀ n : Nat, ((n : Int) + 1 == 0) = false := fun n => beq_eq_false_iff_ne.2 (by omega)
  cases I <;> cases N <;> simp [E_impl_plain, z1, z2]
set_option maxHeartbeats 4000000 in
theorem val_small (v : TValue) (hw : wtL v.enc ≤ 1048576) (room : Int) (h7 : v.kind ≠ 7) (h8 : v.kind ≠ 8) : sameV room v := by
  rw [val_wsum] at hw
  have hT : v.text.length ≤ 1048576 := by omega
  have hone := spec_One v.kind v.text (v.items.map TValue.enc) (v.names.map S1) hT
  have hpl := impl_plain v.kind v.text (v.items.map TValue.enc) (v.names.map S1)
  have a1 := impl_NameOk v.text hT
  have a2 := impl_IntOk v.text hT
  have a3 := impl_FloatOk v.text hT
  have a4 := impl_Escaped v.text hT
  have a5 := impl_Word v.text
  obtain ⟨K, T, I, N⟩ := v
  simp only at *
  have z1 : ∀ n : Nat, ((n : Int) + 1 = 0) = False := fun n => by simp; omega
  have z2 : ∀ n : Nat, ((n : Int) + 1 == 0) = false := fun n => beq_eq_false_iff_ne.2 (by omega)
  have b7 : (K == 7) = false := beq_eq_false_iff_ne.2 h7
  have b8 : (K == 8) = false := beq_eq_false_iff_ne.2 h8
  refine sameV_of (oneV K T && (I.isEmpty && N.isEmpty)) ?_ ?_
  · rw [eq_spec_l07Right]
    generalize oneV K T = q at *
    cases q <;> cases I <;> cases N <;> simp at hone <;> simp [E_spec_l07Right, hone, val_loop0, h7, h8, b7, b8, z1, z2]
  · rw [eq_impl_valueOk]
    have hpl2 : r_impl_plain [.i K, .s T, .sl (I.map TValue.enc), .sl (N.map S1)] = .ret [.b (I.isEmpty && N.isEmpty)] := by
      rw [hpl]; cases I <;> cases N <;> rfl
    simp only [E_impl_valueOk, List.getD_cons_zero, List.getD_cons_succ, DC.ii_i, DC.ss_s, DC.ll_sl, DC.bb_b, hpl2, a1, a2, a3, a4, a5, Out.bindR_ret]
    generalize (I.isEmpty && N.isEmpty) = p
    unfold oneV
    by_cases k1 : K = 1
    · subst k1; cases p <;> simp
    by_cases k2 : K = 2
    · subst k2; cases p <;> simp
    by_cases k3 : K = 3
    · subst k3; cases p <;> simp
    by_cases k4 : K = 4
    · subst k4; cases p <;> simp
    by_cases k5 : K = 5
    · subst k5; cases p <;> simp
    by_cases k6 : K = 6
    · subst k6; cases p <;> cases nameOk T <;> simp
    simp [k1, k2, k3, k4, k5, k6, h7, h8]
set_option maxHeartbeats 2000000 in
theorem val_node (v : TValue) (hw : wtL v.enc ≤ 1048576) (room : Int) (hr : 0 ≤ room) (hr2 : room ≤ 10) (h : 0 < room → ∀ x ∈ v.items, sameV (room - 1) x) : sameV room v := by
  by_cases h78 : v.kind ≠ 7 ∧ v.kind ≠ 8
  · exact val_small v hw room h78.1 h78.2
  rw [val_wsum] at hw
  obtain ⟨hNl, hNs⟩ := strs_len (l := v.names) (by omega)
  have hIl : v.items.length ≤ 1048576 := by rw [DC.wt, List.length_map] at hw; omega
  have hT : v.text.length ≤ 1048576 := by omega
  have hone := spec_One v.kind v.text (v.items.map TValue.enc) (v.names.map S1) hT
  have hn := val_names v.names hNl hNs
  obtain ⟨K, T, I, N⟩ := v
  simp only at *
  have z1 : ∀ n : Nat, ((n : Int) + 1 = 0) = False := fun n => by simp; omega
  have z2 : ∀ n : Nat, ((n : Int) + 1 == 0) = false := fun n => beq_eq_false_iff_ne.2 (by omega)
  by_cases k7 : K = 7
  · subst k7
    have ho : oneV 7 T = (T == []) := by unfold oneV; simp
    rw [ho] at hone
    rcases Int.lt_or_le 0 room with hp | hp
    · have hr0 : (room == 0) = false := beq_eq_false_iff_ne.2 (by omega)
      have hr1 : ¬ room = 0 := by omega
      have hlp := val_loop6 room 7 (by decide) T I (N.map S1) hIl hp hr2 (h hp)
      have hit := val_items room I hIl hp hr2 (h hp)
      refine sameV_of (T == [] && (N.isEmpty && I.all (goodV (room - 1)))) ?_ ?_
      · rw [eq_spec_l07Right]
        generalize I.all (goodV (room - 1)) = A at *
        cases T with
        | nil =>
          cases N with
          | nil =>
            simp at hone hlp
            simp [E_spec_l07Right, hone, z1, z2, hr0, hr1, hlp]
            cases A <;> simp
          | cons n N => simp at hone; simp [E_spec_l07Right, hone, z1, z2]
        | cons a T => simp at hone; simp [E_spec_l07Right, hone]
      · rw [eq_impl_valueOk]
        generalize I.all (goodV (room - 1)) = A at *
        cases T with
        | nil =>
          cases N with
          | nil =>
            simp [E_impl_valueOk, z1, z2, hp, hit]
          | cons n N => simp [E_impl_valueOk, z1, z2]
        | cons a T => cases N <;> simp [E_impl_valueOk, z1, z2, hp]
    · have hr0 : room = 0 := by omega
      subst hr0
      refine sameV_of false ?_ ?_
      · rw [eq_spec_l07Right]
        cases T <;> cases N <;> simp at hone <;> simp [E_spec_l07Right, hone, z1, z2]
      · rw [eq_impl_valueOk]
        cases T <;> cases N <;> simp [E_impl_valueOk, z1, z2]
  have k8 : K = 8 := by
    by_cases h8 : K = 8
    · exact h8
    · exact absurd ⟨k7, h8⟩ h78
  subst k8
  have ho : oneV 8 T = (T == []) := by unfold oneV; simp
  rw [ho] at hone
  by_cases hNI : N.length = I.length
  · have hb1 : ((N.length : Int) != (I.length : Int)) = false := by simp; omega
    rcases Int.lt_or_le 0 room with hp | hp
    · have hr0 : (room == 0) = false := beq_eq_false_iff_ne.2 (by omega)
      have hr1 : ¬ room = 0 := by omega
      have hlp := val_loop7 room T I N hIl hNI hNs hp hr2 (h hp)
      have hit := val_items room I hIl hp hr2 (h hp)
      refine sameV_of (T == [] && (I.all (goodV (room - 1)) && N.all nameOk)) ?_ ?_
      · rw [eq_spec_l07Right]
        generalize (I.all (goodV (room - 1)) && N.all nameOk) = A at *
        cases T with
        | nil =>
          simp at hone
          simp [E_spec_l07Right, hone, hr0, hr1, hb1, hNI]
          rw [hlp]
          cases A <;> simp
        | cons a T => simp at hone; simp [E_spec_l07Right, hone]
      · rw [eq_impl_valueOk]
        generalize I.all (goodV (room - 1)) = A at *
        generalize N.all nameOk = B at *
        cases B <;> cases T <;> simp at hn <;> simp [E_impl_valueOk, hn, hb1, hNI, hp, hit]
    · have hr0 : room = 0 := by omega
      subst hr0
      refine sameV_of false ?_ ?_
      · rw [eq_spec_l07Right]
        cases T <;> simp at hone <;> simp [E_spec_l07Right, hone, hb1, hNI]
      · rw [eq_impl_valueOk]
        generalize N.all nameOk = B at *
        cases B <;> cases T <;> simp at hn <;> simp [E_impl_valueOk, hn, hb1, hNI]
  · have hb1 : ((N.length : Int) != (I.length : Int)) = true := by simp; omega
    have hNI' : ¬ (N.length : Int) = (I.length : Int) := by omega
    refine sameV_of false ?_ ?_
    · rw [eq_spec_l07Right]
      cases T <;> simp at hone <;> simp [E_spec_l07Right, hone, hb1, hNI, hNI']
    · rw [eq_impl_valueOk]
      simp [E_impl_valueOk, hb1, hNI, hNI']
theorem val_same (v : TValue) : wtL v.enc ≤ 1048576 → ∀ room : Int, 0 ≤ room → room ≤ 10 → sameV room v := by
  induction v using TValue.ind with | h v ih =>
  intro hw room hr hr2
  refine val_node v hw room hr hr2 fun hp x hx => ih x hx ?_ (room - 1) (by omega) (by omega)
  rw [val_wsum] at hw
  have := wtV_mem (List.mem_map_of_mem (f := TValue.enc) hx)
  rw [DC.wt] at hw
  omega
theorem cf_impl_ArgsOk_1 (ok : TArg → Bool) (l : List TArg) (hl : l.length ≤ 1048576) (hc : ∀ x ∈ l, r_impl_ArgsOk_1 [.s x.name, .i x.value.kind, .s x.value.text, .sl (x.value.items.map TValue.enc), .sl (x.value.names.map S1)] = .ret [.b (!ok x)]) : r_slices_ContainsFunc_impl_Arg__impl_ArgsOk_1 [.sl (l.map TArg.enc)] = .ret [.b (!(l.all ok))] := by
  rw [eq_slices_ContainsFunc_impl_Arg__impl_ArgsOk_1]
  simp only [E_slices_ContainsFunc_impl_Arg__impl_ArgsOk_1, List.getD_cons_zero, DC.ll_sl]
  rw [eq_slices_IndexFunc_impl_Arg__impl_ArgsOk_1]
  simp only [E_slices_IndexFunc_impl_Arg__impl_ArgsOk_1, List.getD_cons_zero, DC.ll_sl, List.length_map]
  rw [show (0 : Int) = ((0 : Nat) : Int) from rfl, Loop_find0 (l := l) (st := fun i => [.sl (l.map TArg.enc), .i (l.length : Int), .i (i : Int)]) (p := fun n => !ok n) (stop := fun i _ => .ret [.i (i : Int)]) (fin := .ex 0 []) (fun i hi => ?step) (fun _ _ => Out.esc_ret _) ?fin (Out.esc_ex _ _), goF_idx]
  · rw [List.not_all_eq_any_not]
    cases hf : l.findIdx? fun n => !ok n with
    | none =>
      have : (l.any fun n => !ok n) = false := by
        rw [List.any_eq_false]
        intro x hx
        have := List.findIdx?_eq_none_iff.1 hf x hx
        simpa using this
      rw [this]
      simp
    | some j =>
      obtain ⟨hj, h1, h2⟩ := List.findIdx?_eq_some_iff_getElem.1 hf
      have : (l.any fun n => !ok n) = true := List.any_eq_true.2 ⟨l[j], List.getElem_mem hj, h1⟩
      rw [this]
      simp [hj]
  case step =>
    have c2 : 0 ≤ (i : Int) ∧ (i : Int) < (l.length : Int) := by omega
    have d : decide ((i : Int) < (l.length : Int)) = true := decide_eq_true (by omega)
    have he : r_impl_ArgsOk_1 [.s l[i].name, .i l[i].value.kind, .s l[i].value.text, .sl (l[i].value.items.map TValue.enc), .sl (l[i].value.names.map S1)] = .ret [.b (!ok l[i])] := hc _ (List.getElem_mem hi)
    simp only [E_slices_IndexFunc_impl_Arg__impl_ArgsOk_1L1, List.getD_cons_zero, List.getD_cons_succ, DC.bb_b, DC.ii_i, DC.ss_s, DC.ll_sl, Int.toNat_natCast, List.length_map, map_getD hi, TArg.enc_eq, d, c2, he, Out.bindR_ret, true_and, and_self, if_true]
    cases ok l[i] <;> simp [wrap_succ hi (show l.length ≤ 9223372036854775807 by omega)]
  case fin => simp [E_slices_IndexFunc_impl_Arg__impl_ArgsOk_1L1]
theorem cf_impl_DirsOk_1 (ok : TDir → Bool) (l : List TDir) (hl : l.length ≤ 1048576) (hc : ∀ x ∈ l, r_impl_DirsOk_1 [.s x.name, .sl (x.args.map TArg.enc)] = .ret [.b (!ok x)]) : r_slices_ContainsFunc_impl_Dir__impl_DirsOk_1 [.sl (l.map TDir.enc)] = .ret [.b (!(l.all ok))] := by
  rw [eq_slices_ContainsFunc_impl_Dir__impl_DirsOk_1]
  simp only [E_slices_ContainsFunc_impl_Dir__impl_DirsOk_1, List.getD_cons_zero, DC.ll_sl]
  rw [eq_slices_IndexFunc_impl_Dir__impl_DirsOk_1]
  simp only [E_slices_IndexFunc_impl_Dir__impl_DirsOk_1, List.getD_cons_zero, DC.ll_sl, List.length_map]
  rw [show (0 : Int) = ((0 : Nat) : Int) from rfl, Loop_find0 (l := l) (st := fun i => [.sl (l.map TDir.enc), .i (l.length : Int), .i (i : Int)]) (p := fun n => !ok n) (stop := fun i _ => .ret [.i (i : Int)]) (fin := .ex 0 []) (fun i hi => ?step) (fun _ _ => Out.esc_ret _) ?fin (Out.esc_ex _ _), goF_idx]
  · rw [List.not_all_eq_any_not]
    cases hf : l.findIdx? fun n => !ok n with
    | none =>
      have : (l.any fun n => !ok n) = false := by
        rw [List.any_eq_false]
        intro x hx
        have := List.findIdx?_eq_none_iff.1 hf x hx
        simpa using this
      rw [this]
      simp
    | some j =>
      obtain ⟨hj, h1, h2⟩ := List.findIdx?_eq_some_iff_getElem.1 hf
      have : (l.any fun n => !ok n) = true := List.any_eq_true.2 ⟨l[j], List.getElem_mem hj, h1⟩
      rw [this]
      simp [hj]
  case step =>
    have c2 : 0 ≤ (i : Int) ∧ (i : Int) < (l.length : Int) := by omega
    have d : decide ((i : Int) < (l.length : Int)) = true := decide_eq_true (by omega)
    have he : r_impl_DirsOk_1 [.s l[i].name, .sl (l[i].args.map TArg.enc)] = .ret [.b (!ok l[i])] := hc _ (List.getElem_mem hi)
    simp only [E_slices_IndexFunc_impl_Dir__impl_DirsOk_1L1, List.getD_cons_zero, List.getD_cons_succ, DC.bb_b, DC.ii_i, DC.ss_s, DC.ll_sl, Int.toNat_natCast, List.length_map, map_getD hi, TDir.enc_eq, d, c2, he, Out.bindR_ret, true_and, and_self, if_true]
    cases ok l[i] <;> simp [wrap_succ hi (show l.length ≤ 9223372036854775807 by omega)]
  case fin => simp [E_slices_IndexFunc_impl_Dir__impl_DirsOk_1L1]
noncomputable def valOk (v : TValue) : Bool := goodV 10 v
theorem spec_ValueOk (v : TValue) (hw : wtL v.enc ≤ 1048576) : r_spec_ValueOk [.i v.kind, .s v.text, .sl (v.items.map TValue.enc), .sl (v.names.map S1)] = .ret [.b (valOk v)] := by
  obtain ⟨h1, h2⟩ := val_same v hw 10 (by omega) (by omega)
  rw [eq_spec_ValueOk]
  simp only [E_spec_ValueOk, List.getD_cons_zero, List.getD_cons_succ, DC.ii_i, DC.ss_s, DC.ll_sl, h1, Out.bindR_ret, DC.bb_b, valOk]
theorem impl_ValueOk (v : TValue) (hw : wtL v.enc ≤ 1048576) : r_impl_ValueOk [.i v.kind, .s v.text, .sl (v.items.map TValue.enc), .sl (v.names.map S1)] = .ret [.b (valOk v)] := by
  obtain ⟨h1, h2⟩ := val_same v hw 10 (by omega) (by omega)
  rw [eq_impl_ValueOk]
  simp only [E_impl_ValueOk, List.getD_cons_zero, List.getD_cons_succ, DC.ii_i, DC.ss_s, DC.ll_sl, h2, Out.bindR_ret, DC.bb_b, valOk]
noncomputable def argOk (a : TArg) : Bool := nameOk a.name && valOk a.value
noncomputable def argsOk (l : List TArg) : Bool := l.all argOk
noncomputable def dirOk (d : TDir) : Bool := nameOk d.name && argsOk d.args
noncomputable def dirsOk (l : List TDir) : Bool := l.all dirOk
theorem arg_wt (a : TArg) : wtL a.enc = a.name.length + wtL a.value.enc := by
  rw [TArg.enc_eq, TValue.enc_eq]
  simp [wtL, DC.wt]
theorem dir_wt (d : TDir) : wtL d.enc = d.name.length + DC.wt (.sl (d.args.map TArg.enc)) := by
  rw [TDir.enc_eq]
  simp only [wtL, DC.wt, Nat.add_zero]
theorem sl_wt {α : Type} {enc : α → List DC} {l : List α} {n : Nat} (h : DC.wt (.sl (l.map enc)) ≤ n) : l.length ≤ n ∧ ∀ x ∈ l, wtL (enc x) ≤ n := by
  rw [DC.wt, List.length_map] at h
  refine ⟨by omega, fun x hx => ?_⟩
  have := wtV_mem (List.mem_map_of_mem (f := enc) hx)
  omega
theorem impl_ArgsOk (l : List TArg) (hw : DC.wt (.sl (l.map TArg.enc)) ≤ 1048576) : r_impl_ArgsOk [.sl (l.map TArg.enc)] = .ret [.b (argsOk l)] := by
  obtain ⟨hl, hx⟩ := sl_wt hw
  rw [eq_impl_ArgsOk]
  simp only [E_impl_ArgsOk, List.getD_cons_zero, DC.ll_sl]
  rw [cf_impl_ArgsOk_1 argOk l hl fun x hm => ?_]
  · simp only [Out.bindR_ret, List.getD_cons_zero, DC.bb_b, Bool.not_not, argsOk]
  · have hw := hx x hm
    rw [arg_wt] at hw
    rw [eq_impl_ArgsOk_1]
    simp only [E_impl_ArgsOk_1, List.getD_cons_zero, List.getD_cons_succ, DC.ii_i, DC.ss_s, DC.ll_sl, DC.bb_b, impl_NameOk x.name (by omega), impl_ValueOk x.value (by omega), Out.bindR_ret, argOk]
    cases nameOk x.name <;> simp
theorem spec_ArgsOk (l : List TArg) (hw : DC.wt (.sl (l.map TArg.enc)) ≤ 1048576) : r_spec_ArgsOk [.sl (l.map TArg.enc)] = .ret [.b (argsOk l)] := by
  obtain ⟨hl, hx⟩ := sl_wt hw
  rw [eq_spec_ArgsOk]
  simp only [E_spec_ArgsOk, List.getD_cons_zero, DC.ll_sl]
  rw [show (0 : Int) = ((0 : Nat) : Int) from rfl, Loop_find0 (l := l) (st := fun i => [.sl (l.map TArg.enc), .i (i : Int)]) (p := fun n => !argOk n) (stop := fun i _ => .ret [.b false]) (fin := .ex 0 []) (fun i hi => ?step) (fun _ _ => Out.esc_ret _) ?fin (Out.esc_ex _ _), goF_any]
  · rw [show (l.any fun n => !argOk n) = !(argsOk l) by unfold argsOk; rw [List.not_all_eq_any_not]]
    cases argsOk l <;> simp
  case step =>
    have hw := hx l[i] (List.getElem_mem hi)
    rw [arg_wt] at hw
    have c2 : 0 ≤ (i : Int) ∧ (i : Int) < (l.length : Int) := by omega
    have d : decide ((i : Int) < (l.length : Int)) = true := decide_eq_true (by omega)
    simp only [E_spec_ArgsOkL1, List.getD_cons_zero, List.getD_cons_succ, DC.bb_b, DC.ii_i, DC.ss_s, DC.ll_sl, Int.toNat_natCast, List.length_map, map_getD hi, TArg.enc_eq, d, c2, spec_NameOk l[i].name (by omega), spec_ValueOk l[i].value (by omega), Out.bindR_ret, true_and, and_self, if_true]
    rcases Bool.eq_false_or_eq_true (nameOk l[i].name) with a1 | a1 <;> rcases Bool.eq_false_or_eq_true (valOk l[i].value) with a2 | a2 <;> simp [argOk, a1, a2, wrap_succ hi (show l.length ≤ 9223372036854775807 by omega)]
  case fin => simp [E_spec_ArgsOkL1]
theorem impl_DirsOk (l : List TDir) (hw : DC.wt (.sl (l.map TDir.enc)) ≤ 1048576) : r_impl_DirsOk [.sl (l.map TDir.enc)] = .ret [.b (dirsOk l)] := by
  obtain ⟨hl, hx⟩ := sl_wt hw
  rw [eq_impl_DirsOk]
  simp only [E_impl_DirsOk, List.getD_cons_zero, DC.ll_sl]
  rw [cf_impl_DirsOk_1 dirOk l hl fun x hm => ?_]
  · simp only [Out.bindR_ret, List.getD_cons_zero, DC.bb_b, Bool.not_not, dirsOk]
  · have hw := hx x hm
    rw [dir_wt] at hw
    rw [eq_impl_DirsOk_1]
    simp only [E_impl_DirsOk_1, List.getD_cons_zero, List.getD_cons_succ, DC.ii_i, DC.ss_s, DC.ll_sl, DC.bb_b, impl_NameOk x.name (by omega), impl_ArgsOk x.args (by omega), Out.bindR_ret, dirOk]
    cases nameOk x.name <;> simp
theorem spec_DirsOk (l : List TDir) (hw : DC.wt (.sl (l.map TDir.enc)) ≤ 1048576) : r_spec_DirsOk [.sl (l.map TDir.enc)] = .ret [.b (dirsOk l)] := by
  obtain ⟨hl, hx⟩ := sl_wt hw
  rw [eq_spec_DirsOk]
  simp only [E_spec_DirsOk, List.getD_cons_zero, DC.ll_sl]
  rw [show (0 : Int) = ((0 : Nat) : Int) from rfl, Loop_find0 (l := l) (st := fun i => [.sl (l.map TDir.enc), .i (i : Int)]) (p := fun n => !dirOk n) (stop := fun i _ => .ret [.b false]) (fin := .ex 0 []) (fun i hi => ?step) (fun _ _ => Out.esc_ret _) ?fin (Out.esc_ex _ _), goF_any]
  · rw [show (l.any fun n => !dirOk n) = !(dirsOk l) by unfold dirsOk; rw [List.not_all_eq_any_not]]
    cases dirsOk l <;> simp
  case step =>
    have hw := hx l[i] (List.getElem_mem hi)
    rw [dir_wt] at hw
    have c2 : 0 ≤ (i : Int) ∧ (i : Int) < (l.length : Int) := by omega
    have d : decide ((i : Int) < (l.length : Int)) = true := decide_eq_true (by omega)
    simp only [E_spec_DirsOkL1, List.getD_cons_zero, List.getD_cons_succ, DC.bb_b, DC.ii_i, DC.ss_s, DC.ll_sl, Int.toNat_natCast, List.length_map, map_getD hi, TDir.enc_eq, d, c2, spec_NameOk l[i].name (by omega), spec_ArgsOk l[i].args (by omega), Out.bindR_ret, true_and, and_self, if_true]
    rcases Bool.eq_false_or_eq_true (nameOk l[i].name) with a1 | a1 <;> rcases Bool.eq_false_or_eq_true (argsOk l[i].args) with a2 | a2 <;> simp [dirOk, a1, a2, wrap_succ hi (show l.length ≤ 9223372036854775807 by omega)]
  case fin => simp [E_spec_DirsOkL1]
def selCnt (v : TSel) : Nat := 1 + (v.sels.attach.map fun x => selCnt x.1).sum
termination_by SizeOf.sizeOf v
decreasing_by exact TSel.lt x.2
theorem selCnt_eq (v : TSel) : selCnt v = 1 + (v.sels.map selCnt).sum := by
  rw [selCnt]
  simp
def cntR (left : Int) (n : Nat) : Int := if (n : Int) ≤ left then left - n else -1
theorem count_loop (ls : List TSel) (hl : ls.length ≤ 1048576) (k : Int) (a b c : List UInt8) (A D : List (List DC))
    (h : ∀ x ∈ ls, ∀ left : Int, 0 ≤ left → left ≤ 1048576 → r_spec_l11Count [.i x.kind, .s x.alias, .s x.name, .s x.on', .sl (x.args.map TArg.enc), .sl (x.dirs.map TDir.enc), .sl (x.sels.map TSel.enc), .i left] = .ret [.i (cntR left (selCnt x))]) :
    ∀ (m i : Nat) (left : Int), i + m = ls.length → -1 ≤ left → left ≤ 1048576 → Loop E_spec_l11CountL1 [.i left, .i (i : Int), .i k, .s a, .s b, .s c, .sl A, .sl D, .sl (ls.map TSel.enc)] = .ex 0 [.i (if left < 0 then -1 else cntR left ((ls.drop i).map selCnt).sum)]
  | 0, i, left, hi, h0, h1 => by
    have : i = ls.length := by omega
    subst this
    rw [List.drop_length]
    refine Loop_ex ?_
    have d : decide ((ls.length : Int) < (ls.length : Int)) = false := decide_eq_false (by omega)
    simp only [E_spec_l11CountL1, List.getD_cons_zero, List.getD_cons_succ, DC.bb_b, DC.ii_i, DC.ss_s, DC.ll_sl, List.length_map, d, Bool.false_eq_true, if_false, Out.andThen_norm, List.map_nil, List.sum_nil]
    congr 3
    unfold cntR
    split
    · omega
    · rw [if_pos (by omega)]; simp
  | m + 1, i, left, hi, h0, h1 => by
    have hlt : i < ls.length := by omega
    have d : decide ((i : Int) < (ls.length : Int)) = true := decide_eq_true (by omega)
    by_cases hneg : left < 0
    · have e : decide (left ≥ 0) = false := decide_eq_false (by omega)
      have : left = -1 := by omega
      subst this
      rw [if_pos (by omega)]
      refine Loop_ex ?_
      simp only [E_spec_l11CountL1, List.getD_cons_zero, List.getD_cons_succ, DC.bb_b, DC.ii_i, DC.ss_s, DC.ll_sl, List.length_map, d, e, Bool.false_eq_true, if_false, if_true, Out.andThen_norm]
    · have e : decide (left ≥ 0) = true := decide_eq_true (by omega)
      have hx := h ls[i] (List.getElem_mem hlt) left (by omega) h1
      have c2 : 0 ≤ (i : Int) ∧ (i : Int) < (ls.length : Int) := by omega
      have w := wrap_succ hlt (show ls.length ≤ 9223372036854775807 by omega)
      rw [if_neg hneg]
      have hstep : E_spec_l11CountL1 [.i left, .i (i : Int), .i k, .s a, .s b, .s c, .sl A, .sl D, .sl (ls.map TSel.enc)] = .norm [.i (cntR left (selCnt ls[i])), .i ((i + 1 : Nat) : Int), .i k, .s a, .s b, .s c, .sl A, .sl D, .sl (ls.map TSel.enc)] := by
        simp only [E_spec_l11CountL1, List.getD_cons_zero, List.getD_cons_succ, DC.bb_b, DC.ii_i, DC.ss_s, DC.ll_sl, List.length_map, d, e, if_true, Out.andThen_norm, Int.toNat_natCast, map_getD hlt, TSel.enc_eq, c2, true_and, and_self, decide_true, hx, Out.bindR_ret, Out.andThenB_norm, w]
      rw [Loop_norm hstep]
      have hb : -1 ≤ cntR left (selCnt ls[i]) ∧ cntR left (selCnt ls[i]) ≤ 1048576 := by
        unfold cntR
        split <;> omega
      rw [count_loop ls hl k a b c A D h m (i + 1) _ (by omega) hb.1 hb.2, List.drop_eq_getElem_cons hlt, List.map_cons, List.sum_cons]
      congr 3
      unfold cntR
      by_cases hc : (selCnt ls[i] : Int) ≤ left
      · rw [if_pos hc, if_neg (by omega)]
        by_cases hc2 : ((((ls.drop (i + 1)).map selCnt).sum : Nat) : Int) ≤ left - (selCnt ls[i] : Int)
        · rw [if_pos hc2, if_pos (by omega)]; omega
        · rw [if_neg hc2, if_neg (by omega)]
      · rw [if_neg hc, if_pos (by omega), if_neg (by omega)]
theorem spec_count (v : TSel) : wtL v.enc ≤ 1048576 → ∀ left : Int, 0 ≤ left → left ≤ 1048576 → r_spec_l11Count [.i v.kind, .s v.alias, .s v.name, .s v.on', .sl (v.args.map TArg.enc), .sl (v.dirs.map TDir.enc), .sl (v.sels.map TSel.enc), .i left] = .ret [.i (cntR left (selCnt v))] := by
  induction v using TSel.ind with | h v ih =>
  intro hw left h0 h1
  rw [TSel.enc_eq] at hw
  simp only [wtL] at hw
  obtain ⟨hl, hx⟩ := sl_wt (l := v.sels) (enc := TSel.enc) (n := 1048576) (by omega)
  rw [eq_spec_l11Count]
  have w : IntKind.i64.wrap (left - 1) = left - 1 := wrap64 (by omega) (by omega)
  simp only [E_spec_l11Count, List.getD_cons_zero, List.getD_cons_succ, DC.bb_b, DC.ii_i, DC.ss_s, DC.ll_sl, w]
  have := count_loop v.sels hl v.kind v.alias v.name v.on' (v.args.map TArg.enc) (v.dirs.map TDir.enc) (fun x hm => ih x hm (hx x hm)) v.sels.length 0 (left - 1) (by omega) (by omega) (by omega)
  rw [List.drop_zero] at this
  rw [show (0 : Int) = ((0 : Nat) : Int) from rfl, this]
  simp only [Out.andThenB_ex, if_true, List.getD_cons_zero, DC.ii_i]
  congr 3
  rw [selCnt_eq]
  unfold cntR
  split
  · rw [if_neg (by omega)]
  · by_cases hc : (((v.sels.map selCnt).sum : Nat) : Int) ≤ left - 1
    · rw [if_pos hc, if_pos (by omega)]; omega
    · rw [if_neg hc, if_neg (by omega)]
def selNm (v : TSel) : Bool := (v.kind == 1 && (nameOk v.name && ((v.alias == [] || nameOk v.alias) && v.on' == []))) ||
  ((v.kind == 2 && (nameOk v.name && (!(v.name == [111, 110]) && (v.alias == [] && (v.on' == [] && (v.args.isEmpty && v.sels.isEmpty)))))) ||
  (v.kind == 3 && (v.name == [] && (v.alias == [] && ((v.on' == [] || nameOk v.on') && (v.args.isEmpty && !v.sels.isEmpty))))))
set_option maxHeartbeats 4000000 in
theorem spec_Names (v : TSel) (h1 : v.name.length ≤ 1048576) (h2 : v.alias.length ≤ 1048576) (h3 : v.on'.length ≤ 1048576) : r_spec_l11Names [.i v.kind, .s v.alias, .s v.name, .s v.on', .sl (v.args.map TArg.enc), .sl (v.dirs.map TDir.enc), .sl (v.sels.map TSel.enc)] = .ret [.b (selNm v)] := by
  rw [eq_spec_l11Names]
  have e1 : (((v.args.map TArg.enc).length : Int) == 0) = v.args.isEmpty := by cases v.args with | nil => rfl | cons a l => exact beq_eq_false_iff_ne.2 (by simp; omega)
  have e2 : (((v.sels.map TSel.enc).length : Int) == 0) = v.sels.isEmpty := by cases v.sels with | nil => rfl | cons a l => exact beq_eq_false_iff_ne.2 (by simp; omega)
  have e3 : decide (((v.sels.map TSel.enc).length : Int) > 0) = !v.sels.isEmpty := by cases v.sels with | nil => rfl | cons a l => exact decide_eq_true (by simp)
  simp only [E_spec_l11Names, List.getD_cons_zero, List.getD_cons_succ, DC.bb_b, DC.ii_i, DC.ss_s, DC.ll_sl, spec_NameOk _ h1, spec_NameOk _ h2, spec_NameOk _ h3, Out.bindR_ret, e1, e2, e3]
  unfold selNm
  generalize nameOk v.name = p1
  generalize nameOk v.alias = p2
  generalize nameOk v.on' = p3
  generalize (v.alias == ([] : List UInt8)) = q1
  generalize (v.on' == ([] : List UInt8)) = q2
  generalize (v.name == ([] : List UInt8)) = q3
  generalize (v.name == ([111, 110] : List UInt8)) = q4
  generalize v.args.isEmpty = q5
  generalize v.sels.isEmpty = q6
  by_cases k1 : v.kind = 1
  · rw [k1]; cases p1 <;> cases q1 <;> cases p2 <;> simp
  by_cases k2 : v.kind = 2
  · rw [k2]; cases p1 <;> cases q4 <;> cases q1 <;> cases q2 <;> cases q5 <;> simp
  by_cases k3 : v.kind = 3
  · rw [k3]; cases q3 <;> cases q1 <;> cases q2 <;> cases p3 <;> cases q5 <;> simp
  simp [k1, k2, k3]
set_option maxHeartbeats 4000000 in
theorem impl_node (v : TSel) (hw : wtL v.enc ≤ 1048576) (deep left : Int) (hl0 : 0 ≤ left) (hl1 : left ≤ 1048576) :
    r_impl_bound_selOk [.i v.kind, .s v.alias, .s v.name, .s v.on', .sl (v.args.map TArg.enc), .sl (v.dirs.map TDir.enc), .sl (v.sels.map TSel.enc), .i deep, .i left] =
      if (decide (left - 1 < 0) || (deep == 0 || (!dirsOk v.dirs || !(selNm v && argsOk v.args)))) = true then .ret [.b false, .i (left - 1)] else
      Out.andThenB (Loop E_impl_bound_selOkL1 [.i deep, .sl (v.sels.map TSel.enc), .i (v.sels.length : Int), .i 0, .i (left - 1)]) 1 fun v19 => .ret [.b true, .i ((v19.getD 0 d0).ii)] := by
  rw [TSel.enc_eq] at hw
  simp only [wtL] at hw
  rw [eq_impl_bound_selOk]
  have w : IntKind.i64.wrap (left - 1) = left - 1 := wrap64 (by omega) (by omega)
  have n1 : v.name.length ≤ 1048576 := by simp only [DC.wt] at hw; omega
  have n2 : v.alias.length ≤ 1048576 := by simp only [DC.wt] at hw; omega
  have n3 : v.on'.length ≤ 1048576 := by simp only [DC.wt] at hw; omega
  have hA := impl_ArgsOk v.args (by omega)
  have hD := impl_DirsOk v.dirs (by omega)
  have e1 : (((v.args.map TArg.enc).length : Int) == 0) = v.args.isEmpty := by cases v.args with | nil => rfl | cons a l => exact beq_eq_false_iff_ne.2 (by simp; omega)
  have e2 : (((v.sels.map TSel.enc).length : Int) == 0) = v.sels.isEmpty := by cases v.sels with | nil => rfl | cons a l => exact beq_eq_false_iff_ne.2 (by simp; omega)
  have e3 : decide (((v.sels.map TSel.enc).length : Int) > 0) = !v.sels.isEmpty := by cases v.sels with | nil => rfl | cons a l => exact decide_eq_true (by simp)
  have hempty : v.args.isEmpty = true → argsOk v.args = true := fun h => by
    cases ha : v.args with
    | nil => rfl
    | cons a l => rw [ha] at h; simp at h
  have hN1 := impl_NameOk _ n1
  have hN2 := impl_NameOk _ n2
  have hN3 := impl_NameOk _ n3
  simp only [E_impl_bound_selOk, List.getD_cons_zero, List.getD_cons_succ, DC.bb_b, DC.ii_i, DC.ss_s, DC.ll_sl, hD, Out.bindR_ret, w]
  by_cases hn : left - 1 < 0
  · simp [hn]
  by_cases hd : deep = 0
  · simp [hn, hd]
  have hn' : decide (left - 1 < 0) = false := decide_eq_false hn
  have hd' : (deep == 0) = false := beq_eq_false_iff_ne.2 hd
  rw [hn', hd']
  generalize dirsOk v.dirs = b0
  cases b0 with
  | false => simp
  | true =>
    simp only [Bool.false_eq_true, if_false, Bool.not_true, Out.andThen_norm, List.getD_cons_zero, List.getD_cons_succ, DC.bb_b, DC.ii_i, DC.ss_s, DC.ll_sl, hN1, hN2, hN3, hA, Out.bindR_ret, e1, e2, e3, Bool.false_or]
    unfold selNm
    generalize nameOk v.name = p1
    generalize nameOk v.alias = p2
    generalize nameOk v.on' = p3
    generalize (v.alias == ([] : List UInt8)) = q1
    generalize (v.on' == ([] : List UInt8)) = q2
    generalize (v.name == ([] : List UInt8)) = q3
    generalize (v.name == ([111, 110] : List UInt8)) = q4
    generalize v.args.isEmpty = q5 at *
    generalize v.sels.isEmpty = q6
    generalize argsOk v.args = a0 at *
    by_cases k1 : v.kind = 1
    · rw [k1]; cases p1 <;> cases q1 <;> cases p2 <;> cases q2 <;> cases a0 <;> simp
    by_cases k2 : v.kind = 2
    · rw [k2]; cases p1 <;> cases q4 <;> cases q1 <;> cases q2 <;> cases q5 <;> cases q6 <;> simp at hempty <;> simp [hempty]
    by_cases k3 : v.kind = 3
    · rw [k3]; cases q3 <;> cases q1 <;> cases q2 <;> cases p3 <;> cases q5 <;> cases q6 <;> simp at hempty <;> simp [hempty]
    simp [k1, k2, k3]
open Classical in
noncomputable def selR (room : Int) (v : TSel) : Bool := decide (r_spec_l11Right [.i v.kind, .s v.alias, .s v.name, .s v.on', .sl (v.args.map TArg.enc), .sl (v.dirs.map TDir.enc), .sl (v.sels.map TSel.enc), .i room] = .ret [.b true])
theorem selR_of {room : Int} {v : TSel} {b : Bool} (h : r_spec_l11Right [.i v.kind, .s v.alias, .s v.name, .s v.on', .sl (v.args.map TArg.enc), .sl (v.dirs.map TDir.enc), .sl (v.sels.map TSel.enc), .i room] = .ret [.b b]) : selR room v = b := by
  unfold selR
  rw [h]
  cases b <;> simp
theorem right_loop (ls : List TSel) (hl : ls.length ≤ 1048576) (room k : Int) (hr : 0 < room) (hr2 : room ≤ 10) (a b c : List UInt8) (A D : List (List DC))
    (h : ∀ x ∈ ls, r_spec_l11Right [.i x.kind, .s x.alias, .s x.name, .s x.on', .sl (x.args.map TArg.enc), .sl (x.dirs.map TDir.enc), .sl (x.sels.map TSel.enc), .i (room - 1)] = .ret [.b (selR (room - 1) x)]) :
    Loop E_spec_l11RightL1 [.i room, .i 0, .i k, .s a, .s b, .s c, .sl A, .sl D, .sl (ls.map TSel.enc)] = if ls.all (selR (room - 1)) = true then .ex 0 [] else .ret [.b false] := by
  rw [show (0 : Int) = ((0 : Nat) : Int) from rfl, Loop_find0 (l := ls) (st := fun i => [.i room, .i (i : Int), .i k, .s a, .s b, .s c, .sl A, .sl D, .sl (ls.map TSel.enc)]) (p := fun x => !selR (room - 1) x) (stop := fun i _ => .ret [.b false]) (fin := .ex 0 []) (fun i hi => ?step) (fun _ _ => Out.esc_ret _) ?fin (Out.esc_ex _ _), goF_any]
  · rw [show (ls.any fun x => !selR (room - 1) x) = !(ls.all (selR (room - 1))) by rw [List.not_all_eq_any_not]]
    cases ls.all (selR (room - 1)) <;> simp
  case step =>
    have hx := h ls[i] (List.getElem_mem hi)
    have w : IntKind.i64.wrap (room - 1) = room - 1 := wrap64 (by omega) (by omega)
    have c2 : 0 ≤ (i : Int) ∧ (i : Int) < (ls.length : Int) := by omega
    have d : decide ((i : Int) < (ls.length : Int)) = true := decide_eq_true (by omega)
    simp only [E_spec_l11RightL1, List.getD_cons_zero, List.getD_cons_succ, DC.bb_b, DC.ii_i, DC.ss_s, DC.ll_sl, Int.toNat_natCast, List.length_map, map_getD hi, TSel.enc_eq, d, c2, w, hx, Out.bindR_ret, true_and, and_self, if_true, decide_true]
    cases selR (room - 1) ls[i] <;> simp [wrap_succ hi (show ls.length ≤ 9223372036854775807 by omega)]
  case fin => simp [E_spec_l11RightL1]
noncomputable def leftB (deep left : Int) (v : TSel) : Int := match r_impl_bound_selOk [.i v.kind, .s v.alias, .s v.name, .s v.on', .sl (v.args.map TArg.enc), .sl (v.dirs.map TDir.enc), .sl (v.sels.map TSel.enc), .i deep, .i left] with
  | .ret w => (w.getD 1 d0).ii
  | _ => 0
def sameSel (v : TSel) : Prop := ∀ room : Int, 0 ≤ room → room ≤ 10 →
  r_spec_l11Right [.i v.kind, .s v.alias, .s v.name, .s v.on', .sl (v.args.map TArg.enc), .sl (v.dirs.map TDir.enc), .sl (v.sels.map TSel.enc), .i room] = .ret [.b (selR room v)] ∧
  ∀ left : Int, 0 ≤ left → left ≤ 1048576 →
    r_impl_bound_selOk [.i v.kind, .s v.alias, .s v.name, .s v.on', .sl (v.args.map TArg.enc), .sl (v.dirs.map TDir.enc), .sl (v.sels.map TSel.enc), .i room, .i left] = .ret [.b (selR room v && decide ((selCnt v : Int) ≤ left)), .i (leftB room left v)] ∧
    (selR room v = true → (selCnt v : Int) ≤ left → leftB room left v = left - selCnt v)
noncomputable def fSel (deep : Int) (i : Nat) (left : Int) (x : TSel) : Sum Int Out :=
  if (selR deep x && decide ((selCnt x : Int) ≤ left)) = true then .inl (left - selCnt x) else .inr (.ret [.b false, .i (leftB deep left x)])
theorem sel_fold (deep : Int) : ∀ (l : List TSel) (i : Nat) (left : Int), (l.all (selR deep) = true ∧ (((l.map selCnt).sum : Nat) : Int) ≤ left ∧ goE (fSel deep) (fun s => .ex 1 [.i s]) i left l = .ex 1 [.i (left - ((l.map selCnt).sum : Nat))]) ∨
    ((l.all (selR deep) && decide ((((l.map selCnt).sum : Nat) : Int) ≤ left)) = false ∧ ((∃ y, goE (fSel deep) (fun s => .ex 1 [.i s]) i left l = .ret [.b false, .i y]) ∨ (l = [] ∧ left < 0)))
  | [], i, left => by
    by_cases h : left < 0
    · exact .inr ⟨by simp; omega, .inr ⟨rfl, h⟩⟩
    · exact .inl ⟨rfl, by simp; omega, by rw [goE]; simp⟩
  | x :: l, i, left => by
    rw [goE]
    unfold fSel
    rw [List.all_cons, List.map_cons, List.sum_cons]
    cases hs : selR deep x with
    | false =>
      right
      exact ⟨by simp, .inl ⟨_, rfl⟩⟩
    | true =>
      by_cases hc : (selCnt x : Int) ≤ left
      · rw [if_pos (by simp [hc])]
        have ih := sel_fold deep l (i + 1) (left - selCnt x)
        rcases ih with ⟨h1, h2, h3⟩ | ⟨h1, h2⟩
        · left
          refine ⟨by simpa using h1, by omega, ?_⟩
          show goE (fSel deep) _ (i + 1) (left - selCnt x) l = _
          rw [h3]
          congr 3
          omega
        · right
          refine ⟨?_, ?_⟩
          · rw [Bool.true_and]
            cases ha : l.all (selR deep) with
            | false => rfl
            | true =>
              rw [ha] at h1
              simp only [Bool.true_and, decide_eq_false_iff_not] at h1 ⊢
              omega
          · rcases h2 with ⟨y, hy⟩ | ⟨_, h2⟩
            · exact .inl ⟨y, hy⟩
            · omega
      · right
        rw [if_neg (by simp [hc])]
        exact ⟨by simp; omega, .inl ⟨_, rfl⟩⟩
theorem sel_loop (ls : List TSel) (hl : ls.length ≤ 1048576) (deep : Int) (hd : 0 < deep) (hd2 : deep ≤ 10) (h : ∀ x ∈ ls, sameSel x) (left : Int) (h0 : 0 ≤ left) (h1 : left ≤ 1048576) :
    Loop E_impl_bound_selOkL1 [.i deep, .sl (ls.map TSel.enc), .i (ls.length : Int), .i 0, .i left] = goE (fSel (deep - 1)) (fun s => .ex 1 [.i s]) 0 left ls := by
  have := Loop_fold (l := ls) (st := fun i (s : Int) => [.i deep, .sl (ls.map TSel.enc), .i (ls.length : Int), .i (i : Int), .i s]) (f := fSel (deep - 1)) (fin := fun s => .ex 1 [.i s]) (F := E_impl_bound_selOkL1) (fun i s => 0 ≤ s ∧ s ≤ 1048576) ?step ?fin ls.length 0 left (by omega) ⟨h0, h1⟩
  · rw [List.drop_zero] at this
    exact this
  case fin =>
    intro s _
    exact ⟨by simp [E_impl_bound_selOkL1], Out.esc_ex _ _⟩
  case step =>
    intro i s hi hs
    have hx := ((h ls[i] (List.getElem_mem hi)) (deep - 1) (by omega) (by omega)).2 s hs.1 hs.2
    have w : IntKind.i64.wrap (deep - 1) = deep - 1 := wrap64 (by omega) (by omega)
    have c2 : 0 ≤ (i : Int) ∧ (i : Int) < (ls.length : Int) := by omega
    have d : decide ((i : Int) < (ls.length : Int)) = true := decide_eq_true (by omega)
    have wi := wrap_succ hi (show ls.length ≤ 9223372036854775807 by omega)
    unfold fSel
    cases hb : (selR (deep - 1) ls[i] && decide ((selCnt ls[i] : Int) ≤ s)) with
    | true =>
      left
      have hb2 := hb
      rw [Bool.and_eq_true, decide_eq_true_eq] at hb2
      have hle := hx.2 hb2.1 hb2.2
      have hx1 := hx.1
      rw [hb, hle] at hx1
      refine ⟨s - selCnt ls[i], rfl, ⟨by omega, by omega⟩, ?_⟩
      simp only [E_impl_bound_selOkL1, List.getD_cons_zero, List.getD_cons_succ, DC.bb_b, DC.ii_i, DC.ss_s, DC.ll_sl, Int.toNat_natCast, List.length_map, map_getD hi, TSel.enc_eq, d, c2, w, hx1, Out.bindR_ret, true_and, and_self, if_true, decide_true, Bool.not_true, Bool.false_eq_true, if_false, Out.andThenB_norm, wi]
    | false =>
      right
      have hx1 := hx.1
      rw [hb] at hx1
      refine ⟨_, rfl, Out.esc_ret _, ?_⟩
      simp only [E_impl_bound_selOkL1, List.getD_cons_zero, List.getD_cons_succ, DC.bb_b, DC.ii_i, DC.ss_s, DC.ll_sl, Int.toNat_natCast, List.length_map, map_getD hi, TSel.enc_eq, d, c2, w, hx1, Out.bindR_ret, true_and, and_self, if_true, decide_true, Bool.not_false, Out.andThenB_ret]
theorem spec_right (v : TSel) (hw : wtL v.enc ≤ 1048576) (room : Int) (hr : 0 ≤ room) (hr2 : room ≤ 10) (h : ∀ x ∈ v.sels, sameSel x) :
    r_spec_l11Right [.i v.kind, .s v.alias, .s v.name, .s v.on', .sl (v.args.map TArg.enc), .sl (v.dirs.map TDir.enc), .sl (v.sels.map TSel.enc), .i room] = .ret [.b (!(room == 0) && (selNm v && (argsOk v.args && (dirsOk v.dirs && v.sels.all (selR (room - 1))))))] := by
  rw [TSel.enc_eq] at hw
  simp only [wtL] at hw
  have n1 : v.name.length ≤ 1048576 := by simp only [DC.wt] at hw; omega
  have n2 : v.alias.length ≤ 1048576 := by simp only [DC.wt] at hw; omega
  have n3 : v.on'.length ≤ 1048576 := by simp only [DC.wt] at hw; omega
  have hA := spec_ArgsOk v.args (by omega)
  have hD := spec_DirsOk v.dirs (by omega)
  have hN := spec_Names v n1 n2 n3
  obtain ⟨hl, _⟩ := sl_wt (l := v.sels) (enc := TSel.enc) (n := 1048576) (by omega)
  rw [eq_spec_l11Right]
  simp only [E_spec_l11Right, List.getD_cons_zero, List.getD_cons_succ, DC.bb_b, DC.ii_i, DC.ss_s, DC.ll_sl, hA, hD, hN, Out.bindR_ret]
  by_cases h0 : room = 0
  · subst h0; simp
  · have e : (room == 0) = false := beq_eq_false_iff_ne.2 h0
    have hlp := right_loop v.sels hl room v.kind (by omega) hr2 v.alias v.name v.on' (v.args.map TArg.enc) (v.dirs.map TDir.enc) (fun x hx => (h x hx (room - 1) (by omega) (by omega)).1)
    rw [e]
    generalize v.sels.all (selR (room - 1)) = q at *
    cases selNm v with
    | false => simp
    | true =>
      cases argsOk v.args with
      | false => simp
      | true =>
        cases dirsOk v.dirs with
        | false => simp
        | true =>
          simp only [Bool.not_true, Bool.not_false, Bool.false_eq_true, if_false, Out.andThen_norm, List.getD_cons_zero, List.getD_cons_succ, DC.bb_b, DC.ii_i, DC.ss_s, DC.ll_sl, hlp, Bool.true_and]
          cases q <;> simp
theorem sel_same (v : TSel) : wtL v.enc ≤ 1048576 → sameSel v := by
  induction v using TSel.ind with | h v ih =>
  intro hw room hr hr2
  have hw2 := hw
  rw [TSel.enc_eq] at hw2
  simp only [wtL] at hw2
  obtain ⟨hl, hx⟩ := sl_wt (l := v.sels) (enc := TSel.enc) (n := 1048576) (by omega)
  have hs : ∀ x ∈ v.sels, sameSel x := fun x hm => ih x hm (hx x hm)
  have hsp := spec_right v hw room hr hr2 hs
  have hR := selR_of hsp
  refine ⟨by rw [hR]; exact hsp, fun left h0 h1 => ?_⟩
  have hnode := impl_node v hw room left h0 h1
  have key : ∃ y : Int, r_impl_bound_selOk [.i v.kind, .s v.alias, .s v.name, .s v.on', .sl (v.args.map TArg.enc), .sl (v.dirs.map TDir.enc), .sl (v.sels.map TSel.enc), .i room, .i left] = .ret [.b (selR room v && decide ((selCnt v : Int) ≤ left)), .i y] ∧ (selR room v = true → (selCnt v : Int) ≤ left → y = left - selCnt v) := by
    rw [hnode, hR, selCnt_eq]
    by_cases hn : left - 1 < 0
    · rw [if_pos (by simp [hn])]
      have e : decide (((1 + (v.sels.map selCnt).sum : Nat) : Int) ≤ left) = false := decide_eq_false (by omega)
      exact ⟨left - 1, by rw [e, Bool.and_false], fun _ h => by omega⟩
    have hn' : decide (left - 1 < 0) = false := decide_eq_false hn
    by_cases hd : room = 0
    · subst hd
      rw [if_pos (by simp)]
      exact ⟨left - 1, by simp, fun h => by simp at h⟩
    have hd' : (room == 0) = false := beq_eq_false_iff_ne.2 hd
    rw [hn', hd']
    cases dirsOk v.dirs with
    | false => exact ⟨left - 1, by simp, fun h => by simp at h⟩
    | true =>
      cases selNm v with
      | false => exact ⟨left - 1, by simp, fun h => by simp at h⟩
      | true =>
        cases argsOk v.args with
        | false => exact ⟨left - 1, by simp, fun h => by simp at h⟩
        | true =>
          simp only [Bool.not_true, Bool.not_false, Bool.false_or, Bool.and_self, Bool.true_and, Bool.false_eq_true, if_false]
          rw [sel_loop v.sels hl room (by omega) hr2 hs (left - 1) (by omega) (by omega)]
          rcases sel_fold (room - 1) v.sels 0 (left - 1) with ⟨a1, a2, a3⟩ | ⟨a1, a2⟩
          · rw [a3]
            refine ⟨left - 1 - ((v.sels.map selCnt).sum : Nat), ?_, fun _ _ => by omega⟩
            have e : decide (((1 + (v.sels.map selCnt).sum : Nat) : Int) ≤ left) = true := decide_eq_true (by omega)
            rw [a1, e]
            simp
          · rcases a2 with ⟨y, hy⟩ | ⟨_, a2⟩
            · rw [hy]
              have e : (v.sels.all (selR (room - 1)) && decide (((1 + (v.sels.map selCnt).sum : Nat) : Int) ≤ left)) = false := by
                cases ha : v.sels.all (selR (room - 1)) with
                | false => rfl
                | true =>
                  rw [ha] at a1
                  simp only [Bool.true_and, decide_eq_false_iff_not] at a1 ⊢
                  omega
              rw [e]
              refine ⟨y, rfl, fun p q => ?_⟩
              rw [p] at e
              simp only [Bool.true_and, decide_eq_false_iff_not] at e
              omega
            · omega
  obtain ⟨y, hy, hy2⟩ := key
  have e : leftB room left v = y := by unfold leftB; rw [hy]; rfl
  rw [e]
  exact ⟨hy, hy2⟩
noncomputable def selOk (v : TSel) : Bool := selR 10 v && decide ((selCnt v : Int) ≤ 120)
def selsCnt (l : List TSel) : Nat := (l.map selCnt).sum
noncomputable def selsOk (l : List TSel) : Bool := l.all (selR 10) && decide ((selsCnt l : Int) ≤ 120)
theorem ok_count_loop (ls : List TSel) (hl : ls.length ≤ 1048576) (hw : ∀ x ∈ ls, wtL x.enc ≤ 1048576) :
    ∀ (m i : Nat) (left : Int), i + m = ls.length → -1 ≤ left → left ≤ 1048576 → Loop E_spec_l11OkL1 [.sl (ls.map TSel.enc), .i left, .i (i : Int)] = .ex 0 [.sl (ls.map TSel.enc), .i (if left < 0 then -1 else cntR left (selsCnt (ls.drop i)))]
  | 0, i, left, hi, h0, h1 => by
    have : i = ls.length := by omega
    subst this
    rw [List.drop_length]
    refine Loop_ex ?_
    have d : decide ((ls.length : Int) < (ls.length : Int)) = false := decide_eq_false (by omega)
    simp only [E_spec_l11OkL1, List.getD_cons_zero, List.getD_cons_succ, DC.bb_b, DC.ii_i, DC.ss_s, DC.ll_sl, List.length_map, d, Bool.false_eq_true, if_false, Out.andThen_norm, List.map_nil, List.sum_nil, selsCnt]
    congr 4
    unfold cntR
    split
    · omega
    · rw [if_pos (by omega)]; simp
  | m + 1, i, left, hi, h0, h1 => by
    have hlt : i < ls.length := by omega
    have d : decide ((i : Int) < (ls.length : Int)) = true := decide_eq_true (by omega)
    by_cases hneg : left < 0
    · have e : decide (left ≥ 0) = false := decide_eq_false (by omega)
      have : left = -1 := by omega
      subst this
      rw [if_pos (by omega)]
      refine Loop_ex ?_
      simp only [E_spec_l11OkL1, List.getD_cons_zero, List.getD_cons_succ, DC.bb_b, DC.ii_i, DC.ss_s, DC.ll_sl, List.length_map, d, e, Bool.false_eq_true, if_false, if_true, Out.andThen_norm]
    · have e : decide (left ≥ 0) = true := decide_eq_true (by omega)
      have hx := spec_count ls[i] (hw _ (List.getElem_mem hlt)) left (by omega) h1
      have c2 : 0 ≤ (i : Int) ∧ (i : Int) < (ls.length : Int) := by omega
      have w := wrap_succ hlt (show ls.length ≤ 9223372036854775807 by omega)
      rw [if_neg hneg]
      have hstep : E_spec_l11OkL1 [.sl (ls.map TSel.enc), .i left, .i (i : Int)] = .norm [.sl (ls.map TSel.enc), .i (cntR left (selCnt ls[i])), .i ((i + 1 : Nat) : Int)] := by
        simp only [E_spec_l11OkL1, List.getD_cons_zero, List.getD_cons_succ, DC.bb_b, DC.ii_i, DC.ss_s, DC.ll_sl, List.length_map, d, e, if_true, Out.andThen_norm, Int.toNat_natCast, map_getD hlt, TSel.enc_eq, c2, true_and, and_self, decide_true, hx, Out.bindR_ret, Out.andThenB_norm, w]
      rw [Loop_norm hstep]
      have hb : -1 ≤ cntR left (selCnt ls[i]) ∧ cntR left (selCnt ls[i]) ≤ 1048576 := by
        unfold cntR
        split <;> omega
      rw [ok_count_loop ls hl hw m (i + 1) _ (by omega) hb.1 hb.2, List.drop_eq_getElem_cons hlt]
      unfold selsCnt
      rw [List.map_cons, List.sum_cons]
      congr 4
      unfold cntR
      by_cases hc : (selCnt ls[i] : Int) ≤ left
      · rw [if_pos hc, if_neg (by omega)]
        by_cases hc2 : ((((ls.drop (i + 1)).map selCnt).sum : Nat) : Int) ≤ left - (selCnt ls[i] : Int)
        · rw [if_pos hc2, if_pos (by omega)]; omega
        · rw [if_neg hc2, if_neg (by omega)]
      · rw [if_neg hc, if_pos (by omega), if_neg (by omega)]
theorem ok_right_loop (ls : List TSel) (hl : ls.length ≤ 1048576) (hw : ∀ x ∈ ls, wtL x.enc ≤ 1048576) (left : Int) (h0 : 0 ≤ left) :
    Loop E_spec_l11OkL2 [.sl (ls.map TSel.enc), .i left, .i 0] = if ls.all (selR 10) = true then .ex 2 [.i left] else .ret [.b false] := by
  have e : decide (left ≥ 0) = true := decide_eq_true (by omega)
  rw [show (0 : Int) = ((0 : Nat) : Int) from rfl, Loop_find0 (l := ls) (st := fun i => [.sl (ls.map TSel.enc), .i left, .i (i : Int)]) (p := fun x => !selR 10 x) (stop := fun i _ => .ret [.b false]) (fin := .ex 2 [.i left]) (fun i hi => ?step) (fun _ _ => Out.esc_ret _) ?fin (Out.esc_ex _ _), goF_any]
  · rw [show (ls.any fun x => !selR 10 x) = !(ls.all (selR 10)) by rw [List.not_all_eq_any_not]]
    cases ls.all (selR 10) <;> simp
  case step =>
    have hx := (sel_same ls[i] (hw _ (List.getElem_mem hi)) 10 (by omega) (by omega)).1
    have c2 : 0 ≤ (i : Int) ∧ (i : Int) < (ls.length : Int) := by omega
    have d : decide ((i : Int) < (ls.length : Int)) = true := decide_eq_true (by omega)
    simp only [E_spec_l11OkL2, List.getD_cons_zero, List.getD_cons_succ, DC.bb_b, DC.ii_i, DC.ss_s, DC.ll_sl, Int.toNat_natCast, List.length_map, map_getD hi, TSel.enc_eq, d, e, c2, hx, Out.andThen_norm, Out.bindR_ret, true_and, and_self, if_true, decide_true]
    rcases Bool.eq_false_or_eq_true (selR 10 ls[i]) with q | q <;> simp [q, wrap_succ hi (show ls.length ≤ 9223372036854775807 by omega)]
  case fin => simp [E_spec_l11OkL2]
theorem spec_l11Ok (ls : List TSel) (hw : DC.wt (.sl (ls.map TSel.enc)) ≤ 1048576) : r_spec_l11Ok [.sl (ls.map TSel.enc)] = .ret [.b (selsOk ls)] := by
  obtain ⟨hl, hx⟩ := sl_wt hw
  rw [eq_spec_l11Ok]
  simp only [E_spec_l11Ok, List.getD_cons_zero, List.getD_cons_succ, DC.bb_b, DC.ii_i, DC.ss_s, DC.ll_sl]
  have h1 := ok_count_loop ls hl hx ls.length 0 120 (by omega) (by omega) (by omega)
  rw [List.drop_zero, if_neg (by omega), Int.natCast_zero] at h1
  rw [h1]
  simp only [Out.andThenB_ex, if_true, List.getD_cons_zero, List.getD_cons_succ, DC.bb_b, DC.ii_i, DC.ss_s, DC.ll_sl]
  unfold cntR selsOk
  by_cases hc : (selsCnt ls : Int) ≤ 120
  · rw [if_pos hc, ok_right_loop ls hl hx _ (by omega), decide_eq_true hc]
    have e : decide ((120 : Int) - (selsCnt ls : Int) ≥ 0) = true := decide_eq_true (by omega)
    cases ls.all (selR 10)
    · simp
    · simp only [if_true, Out.andThenB_ex, List.getD_cons_zero, DC.ii_i, e, Bool.and_self]
  · rw [if_neg hc, decide_eq_false hc, Bool.and_false]
    have : Loop E_spec_l11OkL2 [.sl (ls.map TSel.enc), .i (-1), .i 0] = .ex 2 [.i (-1)] := by
      refine Loop_ex ?_
      simp only [E_spec_l11OkL2, List.getD_cons_zero, List.getD_cons_succ, DC.bb_b, DC.ii_i, DC.ss_s, DC.ll_sl]
      cases decide ((0 : Int) < (((ls.map TSel.enc).length : Nat) : Int)) <;> simp
    rw [this]
    simp
noncomputable def fSel2 (i : Nat) (left : Int) (x : TSel) : Sum Int Out :=
  if (selR 10 x && decide ((selCnt x : Int) ≤ left)) = true then .inl (left - selCnt x) else .inr (.ret [.b false])
theorem sel_fold2 (fin : Int → Out) : ∀ (l : List TSel) (i : Nat) (left : Int), 0 ≤ left → goE fSel2 fin i left l = if (l.all (selR 10) && decide ((selsCnt l : Int) ≤ left)) = true then fin (left - selsCnt l) else .ret [.b false]
  | [], i, left, h => by
    rw [goE]
    simp [selsCnt, h]
  | x :: l, i, left, h => by
    rw [goE]
    have hc : selsCnt (x :: l) = selCnt x + selsCnt l := by simp [selsCnt]
    rw [hc, List.all_cons]
    unfold fSel2
    cases hs : selR 10 x with
    | false => simp
    | true =>
      by_cases hle : (selCnt x : Int) ≤ left
      · rw [if_pos (by simp [hle])]
        show goE fSel2 fin (i + 1) (left - selCnt x) l = _
        rw [sel_fold2 fin l (i + 1) (left - selCnt x) (by omega)]
        rw [show decide ((selsCnt l : Int) ≤ left - (selCnt x : Int)) = decide (((selCnt x + selsCnt l : Nat) : Int) ≤ left) from decide_eq_decide.2 (by omega), show left - (selCnt x : Int) - (selsCnt l : Int) = left - ((selCnt x + selsCnt l : Nat) : Int) by omega, Bool.true_and]
      · rw [if_neg (by simp [hle]), if_neg (by simp; omega)]
theorem impl_selsOk (ls : List TSel) (hw : DC.wt (.sl (ls.map TSel.enc)) ≤ 1048576) : r_impl_selsOk [.sl (ls.map TSel.enc)] = .ret [.b (selsOk ls && !ls.isEmpty)] := by
  obtain ⟨hl, hx⟩ := sl_wt hw
  rw [eq_impl_selsOk]
  simp only [E_impl_selsOk, List.getD_cons_zero, List.getD_cons_succ, DC.bb_b, DC.ii_i, DC.ss_s, DC.ll_sl, List.length_map]
  have := Loop_fold (l := ls) (st := fun i (s : Int) => [.sl (ls.map TSel.enc), .sl (ls.map TSel.enc), .i (ls.length : Int), .i (i : Int), .i s]) (f := fSel2) (fin := fun s => .ex 0 [.sl (ls.map TSel.enc)]) (F := E_impl_selsOkL1) (fun i s => 0 ≤ s ∧ s ≤ 1048576) ?step ?fin ls.length 0 120 (by omega) ⟨by omega, by omega⟩
  · rw [List.drop_zero, Int.natCast_zero] at this
    rw [this, sel_fold2 _ _ _ _ (by omega)]
    have e3 : decide ((ls.length : Int) > 0) = !ls.isEmpty := by cases ls with | nil => rfl | cons a l => exact decide_eq_true (by simp)
    rw [show (ls.all (selR 10) && decide ((selsCnt ls : Int) ≤ 120)) = selsOk ls from rfl]
    cases selsOk ls
    · simp
    · simp only [if_true, Out.andThenB_ex, List.getD_cons_zero, DC.ll_sl, List.length_map, e3, Bool.true_and]
  case fin =>
    intro s _
    exact ⟨by simp [E_impl_selsOkL1], Out.esc_ex _ _⟩
  case step =>
    intro i s hi hs
    have hx := ((sel_same ls[i] (hx _ (List.getElem_mem hi))) 10 (by omega) (by omega)).2 s hs.1 hs.2
    have c2 : 0 ≤ (i : Int) ∧ (i : Int) < (ls.length : Int) := by omega
    have d : decide ((i : Int) < (ls.length : Int)) = true := decide_eq_true (by omega)
    have wi := wrap_succ hi (show ls.length ≤ 9223372036854775807 by omega)
    unfold fSel2
    cases hb : (selR 10 ls[i] && decide ((selCnt ls[i] : Int) ≤ s)) with
    | true =>
      left
      have hb2 := hb
      rw [Bool.and_eq_true, decide_eq_true_eq] at hb2
      have hle := hx.2 hb2.1 hb2.2
      have hx1 := hx.1
      rw [hb, hle] at hx1
      refine ⟨s - selCnt ls[i], rfl, ⟨by omega, by omega⟩, ?_⟩
      simp only [E_impl_selsOkL1, List.getD_cons_zero, List.getD_cons_succ, DC.bb_b, DC.ii_i, DC.ss_s, DC.ll_sl, Int.toNat_natCast, List.length_map, map_getD hi, TSel.enc_eq, d, c2, hx1, Out.bindR_ret, true_and, and_self, if_true, decide_true, Bool.not_true, Bool.false_eq_true, if_false, Out.andThenB_norm, wi]
    | false =>
      right
      have hx1 := hx.1
      rw [hb] at hx1
      refine ⟨_, rfl, Out.esc_ret _, ?_⟩
      simp only [E_impl_selsOkL1, List.getD_cons_zero, List.getD_cons_succ, DC.bb_b, DC.ii_i, DC.ss_s, DC.ll_sl, Int.toNat_natCast, List.length_map, map_getD hi, TSel.enc_eq, d, c2, hx1, Out.bindR_ret, true_and, and_self, if_true, decide_true, Bool.not_false, Out.andThenB_ret]
theorem bytesRow_eq (l : List UInt8) : bytesRow l = brows l := rfl
theorem brows_app' (l m : List UInt8) : brows l ++ brows m = brows (l ++ m) := (brows_app l m).symm
def jt {α : Type} (o sep : List UInt8) (f : α → List UInt8) : List α → List UInt8
  | [] => []
  | x :: l => o ++ (f x ++ l.flatMap fun y => sep ++ f y)
theorem jt_app {α : Type} (o sep : List UInt8) (f : α → List UInt8) (a b : List α) : ∃ t, jt o sep f (a ++ b) = jt o sep f a ++ t := by
  cases a with
  | nil => exact ⟨jt o sep f b, rfl⟩
  | cons x a => exact ⟨b.flatMap fun y => sep ++ f y, by simp [jt, List.flatMap_append]⟩
theorem jt_snoc {α : Type} (o sep : List UInt8) (f : α → List UInt8) (l : List α) (x : α) : jt o sep f (l ++ [x]) = jt o sep f l ++ ((if l.length = 0 then o else sep) ++ f x) := by
  cases l with
  | nil => simp [jt]
  | cons a l => simp [jt, List.flatMap_append]
theorem jt_take {α : Type} (o sep : List UInt8) (f : α → List UInt8) (l : List α) {i : Nat} (hi : i < l.length) : jt o sep f (l.take (i + 1)) = jt o sep f (l.take i) ++ ((if i = 0 then o else sep) ++ f l[i]) := by
  rw [← List.take_append_getElem hi, jt_snoc, List.length_take, Nat.min_eq_left (by omega)]
theorem jt_join {α : Type} (sep : List UInt8) (f : α → List UInt8) (l : List α) : jt [] sep f l = Lib.join (l.map f) sep := by
  cases l with
  | nil => rfl
  | cons x l =>
    rw [List.map_cons, Lib.join_cons, Lib.joinTail, List.map_map, jt, List.nil_append, List.flatMap_def]
    rfl
theorem jt_loop {α : Type} {o sep : List UInt8} {f : α → List UInt8} {l : List α} {st : Nat → List UInt8 → List DC} {F : List DC → Out} {res : Out} (out : List UInt8)
    (step : ∀ (i : Nat) (hi : i < l.length) (cur : List UInt8), cur.length + ((if i = 0 then o else sep) ++ f l[i]).length ≤ out.length + (jt o sep f l).length → F (st i cur) = .norm (st (i + 1) (cur ++ ((if i = 0 then o else sep) ++ f l[i]))))
    (fin : F (st l.length (out ++ jt o sep f l)) = res) (he : res.esc) : Loop F (st 0 out) = res := by
  have h := Loop_upto (F := F) (st := fun i => st i (out ++ jt o sep f (l.take i))) (o := res) l.length 0 (fun j _ hj => ?_) ?_
  · simpa [jt] using h
  · have hj : j < l.length := by omega
    try dsimp only
    rw [jt_take o sep f l hj, ← List.append_assoc]
    refine step j hj _ ?_
    obtain ⟨t, ht⟩ := jt_app o sep f (l.take (j + 1)) (l.drop (j + 1))
    rw [List.take_append_drop, jt_take o sep f l hj] at ht
    have := congrArg List.length ht
    simp only [List.length_append] at this ⊢
    omega
  · try dsimp only
    rw [Nat.zero_add, List.take_length]
    exact Loop_esc fin he
theorem words_loop {α : Type} {w : α → List UInt8} {l : List α} {st : Nat → List (List DC) → List DC} {F : List DC → Out} {res : Out}
    (step : ∀ (i : Nat) (hi : i < l.length) (cur : List (List DC)), cur.length = i → F (st i cur) = .norm (st (i + 1) (cur ++ [[DC.s (w l[i])]])))
    (fin : F (st l.length (l.map fun x => [DC.s (w x)])) = res) (he : res.esc) : Loop F (st 0 []) = res := by
  have h := Loop_upto (F := F) (st := fun i => st i ((l.take i).map fun x => [DC.s (w x)])) (o := res) l.length 0 (fun j _ hj => ?_) ?_
  · simpa using h
  · have hj : j < l.length := by omega
    try dsimp only
    rw [← List.take_append_getElem hj, List.map_append, List.map_cons, List.map_nil]
    exact step j hj _ (by rw [List.length_map, List.length_take]; omega)
  · try dsimp only
    rw [Nat.zero_add, List.take_length]
    exact Loop_esc fin he
theorem join_words (ws : List (List UInt8)) (sep : List UInt8) (h : ws.length ≤ 140737488355328) (h2 : (Lib.join ws sep).length ≤ 140737488355328) :
    qJoin (ws.map fun x => [DC.s x]) sep = some (Lib.join ws sep) := by
  have e : ((ws.map fun x => [DC.s x]).map fun x => (x.getD 0 d0).ss) = ws := by
    rw [List.map_map]
    exact List.map_id ws
  unfold qJoin
  rw [e, List.length_map, if_pos ⟨h, h2⟩]
theorem join_len (ws : List (List UInt8)) : (Lib.join ws [44, 32]).length ≤ (ws.map List.length).sum + 2 * ws.length := by
  cases ws with
  | nil => simp [Lib.join]
  | cons x l =>
    rw [Lib.join_cons, Lib.joinTail]
    have : ((l.map ([44, 32] ++ ·)).flatten).length = (l.map List.length).sum + 2 * l.length := by
      induction l with
      | nil => rfl
      | cons a l ih => simp only [List.map_cons, List.flatten_cons, List.length_append, List.sum_cons, List.length_cons, ih, List.length_nil]; omega
    simp only [List.length_append, List.map_cons, List.sum_cons, List.length_cons, this]
    omega
theorem zip_len (g : List UInt8 → List UInt8 → List UInt8) (hg : ∀ n t, (g n t).length = n.length + t.length + 2) : ∀ (ns ws : List (List UInt8)), ((List.zipWith g ns ws).map List.length).sum + 2 * (List.zipWith g ns ws).length ≤ (ns.map List.length).sum + (ws.map List.length).sum + 4 * ws.length
  | [], ws => by simp
  | n :: ns, [] => by simp
  | n :: ns, w :: ws => by
    have := zip_len g hg ns ws
    simp only [List.zipWith_cons_cons, List.map_cons, List.sum_cons, List.length_cons, hg]
    omega
theorem wtV_S1 : ∀ l : List (List UInt8), wtV (l.map S1) = (l.map List.length).sum
  | [] => rfl
  | x :: l => by rw [List.map_cons, wtV, wtV_S1 l, List.map_cons, List.sum_cons]; simp [S1, wtL, DC.wt]
theorem sum_wtV {α : Type} {enc : α → List DC} {f : α → List UInt8} {a b : Nat} : ∀ (l : List α), (∀ x ∈ l, (f x).length ≤ a * wtL (enc x) + b) → ((l.map f).map List.length).sum ≤ a * wtV (l.map enc) + b * l.length
  | [], _ => by simp
  | x :: l, h => by
    have h1 := h x (by simp)
    have h2 := sum_wtV (enc := enc) l fun y hy => h y (by simp [hy])
    simp only [List.map_cons, List.sum_cons, wtV, List.length_cons, Nat.mul_add, Nat.mul_one]
    omega
def valW (k : Int) (t : List UInt8) (ns ws : List (List UInt8)) : List UInt8 :=
  if k = 1 then 36 :: t else if k = 4 then escaped t else if k = 7 then 91 :: (Lib.join ws [44, 32] ++ [93])
  else if k = 8 then 123 :: (Lib.join (List.zipWith (fun n t => n ++ (58 :: 32 :: t)) ns ws) [44, 32] ++ [125]) else t
def valT (v : TValue) : List UInt8 := valW v.kind v.text v.names (v.items.attach.map fun x => valT x.1)
termination_by SizeOf.sizeOf v
decreasing_by exact TValue.lt x.2
theorem valT_eq (v : TValue) : valT v = valW v.kind v.text v.names (v.items.map valT) := by
  rw [valT]
  congr 1
  simp
theorem escaped_len (s : List UInt8) : (escaped s).length ≤ 6 * s.length + 2 := by
  unfold escaped
  split
  · have := escs_len s
    simp only [List.length_cons, List.length_append, List.length_nil]
    omega
  · simp
theorem valT_len (v : TValue) : (valT v).length ≤ 8 * wtL v.enc + 2 := by
  induction v using TValue.ind with | h v ih =>
  rw [valT_eq, val_wsum]
  have hs := sum_wtV (enc := TValue.enc) (f := valT) v.items ih
  simp only [DC.wt, List.length_map, wtV_S1]
  unfold valW
  split
  · simp only [List.length_cons]; omega
  split
  · have := escaped_len v.text
    omega
  split
  · have := join_len (v.items.map valT)
    simp only [List.length_cons, List.length_append, List.length_nil, List.length_map] at this ⊢
    omega
  split
  · have h1 := join_len (List.zipWith (fun n t => n ++ (58 :: 32 :: t)) v.names (v.items.map valT))
    have h2 := zip_len (fun n t => n ++ (58 :: 32 :: t)) (fun n t => by simp only [List.length_append, List.length_cons]; omega) v.names (v.items.map valT)
    simp only [List.length_cons, List.length_append, List.length_nil, List.length_map] at h1 h2 ⊢
    omega
  · omega
def argT (a : TArg) : List UInt8 := a.name ++ (58 :: 32 :: valT a.value)
def argsT (l : List TArg) : List UInt8 := jt [40] [44, 32] argT l ++ (if l.isEmpty then [] else [41])
theorem jt_cons {α : Type} (o sep : List UInt8) (f : α → List UInt8) (x : α) (l : List α) : jt o sep f (x :: l) = o ++ Lib.join ((x :: l).map f) sep := by
  rw [← jt_join, jt, jt, List.nil_append]
theorem argsT_cons (x : TArg) (l : List TArg) : argsT (x :: l) = 40 :: (Lib.join ((x :: l).map argT) [44, 32] ++ [41]) := by
  rw [argsT, jt_cons]
  rfl
theorem argsT_nil : argsT [] = [] := rfl
theorem arg_len (a : TArg) : (argT a).length ≤ 8 * wtL a.enc + 4 := by
  have := valT_len a.value
  rw [arg_wt]
  unfold argT
  simp only [List.length_append, List.length_cons]
  omega
theorem args_len (l : List TArg) : (argsT l).length ≤ 8 * DC.wt (.sl (l.map TArg.enc)) := by
  cases l with
  | nil => simp [argsT_nil]
  | cons x l =>
    have h1 := join_len ((x :: l).map argT)
    have h2 := sum_wtV (enc := TArg.enc) (f := argT) (a := 8) (b := 4) (x :: l) fun y _ => arg_len y
    rw [argsT_cons, DC.wt]
    rw [List.length_map] at h1
    simp only [List.length_cons, List.length_append, List.length_nil, List.length_map] at h1 h2 ⊢
    omega
def dirT (d : TDir) : List UInt8 := 32 :: 64 :: (d.name ++ argsT d.args)
def dirsT (l : List TDir) : List UInt8 := jt [] [] dirT l
theorem flat_len {α : Type} {enc : α → List DC} {f : α → List UInt8} {a : Nat} (l : List α) (h : ∀ x ∈ l, (f x).length ≤ a * wtL (enc x) + a) : (jt [] [] f l).length ≤ a * DC.wt (.sl (l.map enc)) := by
  have e : jt [] [] f l = l.flatMap f := by
    cases l with
    | nil => rfl
    | cons x l => rfl
  have hs := sum_wtV (enc := enc) (f := f) l h
  rw [e, List.length_flatMap, DC.wt, List.length_map, Nat.mul_add]
  rw [List.map_map] at hs
  have : (l.map fun x => (f x).length) = l.map (List.length ∘ f) := rfl
  rw [this]
  omega
theorem dir_len (d : TDir) : (dirT d).length ≤ 8 * wtL d.enc + 8 := by
  have := args_len d.args
  rw [dir_wt]
  unfold dirT
  simp only [List.length_append, List.length_cons]
  omega
theorem dirs_len (l : List TDir) : (dirsT l).length ≤ 8 * DC.wt (.sl (l.map TDir.enc)) := flat_len l fun x _ => dir_len x
def blanks (n : Nat) : List UInt8 := List.replicate (2 * n) 32
def headT (s : TSel) : List UInt8 :=
  (if s.kind = 1 then (if s.alias = [] then [] else s.alias ++ [58, 32]) ++ s.name
  else if s.kind = 2 then [46, 46, 46] ++ s.name
  else [46, 46, 46] ++ (if s.on' = [] then [] else [32, 111, 110, 32] ++ s.on')) ++ (argsT s.args ++ dirsT s.dirs)
def blockT (n : Nat) (b : List UInt8) : List UInt8 := [32, 123, 10] ++ (b ++ (blanks n ++ [125]))
def selT (s : TSel) (n : Nat) : List UInt8 := blanks n ++ (headT s ++ ((if s.sels.isEmpty then [] else blockT n ((s.sels.attach.map fun x => selT x.1 (n + 1)).flatten)) ++ [10]))
termination_by SizeOf.sizeOf s
decreasing_by exact TSel.lt x.2
def selsT (l : List TSel) (n : Nat) : List UInt8 := jt [] [] (fun s => selT s n) l
theorem jt_flat {α : Type} (f : α → List UInt8) (l : List α) : jt [] [] f l = (l.map f).flatten := by
  cases l with
  | nil => rfl
  | cons x l => simp [jt, List.flatMap_def]
theorem selT_eq (s : TSel) (n : Nat) : selT s n = blanks n ++ (headT s ++ ((if s.sels.isEmpty then [] else blockT n (selsT s.sels (n + 1))) ++ [10])) := by
  rw [selT, selsT, jt_flat]
  simp
theorem sel_wsum (v : TSel) : wtL v.enc = v.alias.length + v.name.length + v.on'.length + DC.wt (.sl (v.args.map TArg.enc)) + DC.wt (.sl (v.dirs.map TDir.enc)) + DC.wt (.sl (v.sels.map TSel.enc)) := by
  rw [TSel.enc_eq]
  simp only [wtL]
  simp only [DC.wt]
  omega
theorem head_len (s : TSel) : (headT s).length ≤ 8 * wtL s.enc + 8 := by
  have h1 := args_len s.args
  have h2 := dirs_len s.dirs
  rw [sel_wsum]
  unfold headT
  simp only [List.length_append]
  split
  · split <;> simp only [List.length_append, List.length_cons, List.length_nil] <;> omega
  split
  · simp only [List.length_append, List.length_cons, List.length_nil]; omega
  · split <;> simp only [List.length_append, List.length_cons, List.length_nil] <;> omega
def depthLe : Nat → TSel → Prop
  | 0, _ => False
  | r + 1, s => ∀ x ∈ s.sels, depthLe r x
theorem selT_len : ∀ (r : Nat) (s : TSel) (n : Nat), depthLe r s → n + r ≤ 40 → (selT s n).length ≤ 200 * wtL s.enc + 200
  | 0, s, n, h, _ => h.elim
  | r + 1, s, n, h, hn => by
    have hh := head_len s
    rw [selT_eq]
    have hw := sel_wsum s
    have hb : (blanks n).length = 2 * n := by simp [blanks]
    simp only [List.length_append, List.length_cons, List.length_nil, hb]
    split
    · simp only [List.length_nil]; omega
    · have hs := flat_len (enc := TSel.enc) (f := fun x => selT x (n + 1)) (a := 200) s.sels fun x hx => selT_len r x (n + 1) (h x hx) (by omega)
      have h8 : wtL s.enc ≥ DC.wt (.sl (s.sels.map TSel.enc)) := by omega
      unfold blockT selsT
      simp only [List.length_append, List.length_cons, List.length_nil, hb]
      have h3 := args_len s.args
      have h4 := dirs_len s.dirs
      have hh2 : (headT s).length ≤ 8 * (s.alias.length + s.name.length + s.on'.length + DC.wt (.sl (s.args.map TArg.enc)) + DC.wt (.sl (s.dirs.map TDir.enc))) + 8 := by
        unfold headT
        simp only [List.length_append]
        split
        · split <;> simp only [List.length_append, List.length_cons, List.length_nil] <;> omega
        split
        · simp only [List.length_append, List.length_cons, List.length_nil]; omega
        · split <;> simp only [List.length_append, List.length_cons, List.length_nil] <;> omega
      rw [hw]
      omega
theorem good_shape (v : TValue) (hw : wtL v.enc ≤ 1048576) (room : Int) (hr : 0 ≤ room) (hr2 : room ≤ 10) (hg : goodV room v = true) :
    (v.kind ≠ 7 → v.kind ≠ 8 → v.items = []) ∧ (v.kind = 8 → v.names.length = v.items.length) ∧ ∀ x ∈ v.items, 0 ≤ room - 1 ∧ goodV (room - 1) x = true := by
  have h1 := (val_same v hw room hr hr2).1
  rw [hg] at h1
  rw [val_wsum] at hw
  obtain ⟨hNl, hNs⟩ := strs_len (l := v.names) (by omega)
  obtain ⟨hIl, hx⟩ := sl_wt (l := v.items) (enc := TValue.enc) (n := 1048576) (by omega)
  have hone := spec_One v.kind v.text (v.items.map TValue.enc) (v.names.map S1) (by omega)
  have hs : 0 < room → ∀ x ∈ v.items, sameV (room - 1) x := fun hp x hm => val_same x (hx x hm) (room - 1) (by omega) (by omega)
  obtain ⟨K, T, I, N⟩ := v
  simp only at *
  have z1 : ∀ n : Nat, ((n : Int) + 1 = 0) = False := fun n => by simp; omega
  have z2 : ∀ n : Nat, ((n : Int) + 1 == 0) = false := fun n => beq_eq_false_iff_ne.2 (by omega)
  rw [eq_spec_l07Right] at h1
  cases ho : oneV K T with
  | false => rw [ho] at hone; simp [E_spec_l07Right, hone] at h1
  | true =>
    rw [ho] at hone
    by_cases k7 : K = 7
    · subst k7
      cases N with
      | cons n N => (try simp at hone); simp [E_spec_l07Right, hone, z1, z2] at h1
      | nil =>
        rcases Int.lt_or_le 0 room with hp | hp
        · have hr0 : (room == 0) = false := beq_eq_false_iff_ne.2 (by omega)
          have hr1 : ¬ room = 0 := by omega
          have hlp := val_loop6 room 7 (by decide) T I [] hIl hp hr2 (hs hp)
          refine ⟨fun h => absurd rfl h, fun h => by simp at h, ?_⟩
          cases hA : I.all (goodV (room - 1)) with
          | false => rw [hA] at hlp; (try simp at hone hlp); simp [E_spec_l07Right, hone, z1, z2, hr0, hr1, hlp] at h1
          | true => exact fun x hm => ⟨by omega, List.all_eq_true.1 hA x hm⟩
        · have hr0 : room = 0 := by omega
          subst hr0
          (try simp at hone)
          simp [E_spec_l07Right, hone, z1, z2] at h1
    · by_cases k8 : K = 8
      · subst k8
        by_cases hlen : N.length = I.length
        · rcases Int.lt_or_le 0 room with hp | hp
          · have hr0 : (room == 0) = false := beq_eq_false_iff_ne.2 (by omega)
            have hr1 : ¬ room = 0 := by omega
            have hlp := val_loop7 room T I N hIl hlen hNs hp hr2 (hs hp)
            refine ⟨fun _ h => absurd rfl h, fun _ => hlen, ?_⟩
            cases hA : I.all (goodV (room - 1)) with
            | false => rw [hA] at hlp; (try simp at hone hlp); simp [E_spec_l07Right, hone, z1, z2, hr0, hr1, hlp, hlen] at h1
            | true => exact fun x hm => ⟨by omega, List.all_eq_true.1 hA x hm⟩
          · have hr0 : room = 0 := by omega
            subst hr0
            (try simp at hone)
            simp [E_spec_l07Right, hone, z1, z2, hlen] at h1
        · have hl2 : ¬ ((N.length : Int) = (I.length : Int)) := by omega
          (try simp at hone)
          simp [E_spec_l07Right, hone, z1, z2, hl2] at h1
      · cases I with
        | nil => exact ⟨fun _ _ => rfl, fun h => absurd h k8, fun x hm => by simp at hm⟩
        | cons a I =>
          (try simp at hone)
          simp [E_spec_l07Right, hone, z1, z2, k7, k8] at h1
theorem sel_facts (v : TSel) (hw : wtL v.enc ≤ 1048576) (room : Nat) (hr : room ≤ 10) (h : selR room v = true) :
    ∃ r, room = r + 1 ∧ selNm v = true ∧ argsOk v.args = true ∧ dirsOk v.dirs = true ∧ ∀ x ∈ v.sels, selR r x = true := by
  have hw2 := hw
  rw [sel_wsum] at hw2
  obtain ⟨hl, hx⟩ := sl_wt (l := v.sels) (enc := TSel.enc) (n := 1048576) (by omega)
  have hR := selR_of (spec_right v hw (room : Int) (by omega) (by omega) fun x hm => sel_same x (hx x hm))
  rw [hR] at h
  simp only [Bool.and_eq_true, Bool.not_eq_true', beq_eq_false_iff_ne, ne_eq] at h
  obtain ⟨h0, h1, h2, h3, h4⟩ := h
  refine ⟨room - 1, by omega, h1, h2, h3, fun x hm => ?_⟩
  have := List.all_eq_true.1 h4 x hm
  rw [show ((room - 1 : Nat) : Int) = (room : Int) - 1 by omega]
  exact this
theorem sel_depth : ∀ (room : Nat) (v : TSel), wtL v.enc ≤ 1048576 → room ≤ 10 → selR room v = true → depthLe room v
  | 0, v, hw, hr, h => by
    obtain ⟨r, h0, _⟩ := sel_facts v hw 0 hr h
    omega
  | room + 1, v, hw, hr, h => by
    obtain ⟨r, h0, _, _, _, h1⟩ := sel_facts v hw (room + 1) hr h
    have hw2 := hw
    rw [sel_wsum] at hw2
    obtain ⟨hl, hx⟩ := sl_wt (l := v.sels) (enc := TSel.enc) (n := 1048576) (by omega)
    intro x hm
    exact sel_depth room x (hx x hm) (by omega) (by rw [show room = r by omega]; exact h1 x hm)
theorem bc44 (l : List UInt8) : [DC.i (44 : Int)] :: brows l = brows (44 :: l) := rfl
theorem bc58 (l : List UInt8) : [DC.i (58 : Int)] :: brows l = brows (58 :: l) := rfl
theorem bc32 (l : List UInt8) : [DC.i (32 : Int)] :: brows l = brows (32 :: l) := rfl
theorem bc46 (l : List UInt8) : [DC.i (46 : Int)] :: brows l = brows (46 :: l) := rfl
theorem bc123 (l : List UInt8) : [DC.i (123 : Int)] :: brows l = brows (123 :: l) := rfl
theorem bc64 (l : List UInt8) : [DC.i (64 : Int)] :: brows l = brows (64 :: l) := rfl
theorem bc10 (l : List UInt8) : [DC.i (10 : Int)] :: brows l = brows (10 :: l) := rfl
theorem bc125 (l : List UInt8) : [DC.i (125 : Int)] :: brows l = brows (125 :: l) := rfl
theorem bc40 (l : List UInt8) : [DC.i (40 : Int)] :: brows l = brows (40 :: l) := rfl
theorem bc41 (l : List UInt8) : [DC.i (41 : Int)] :: brows l = brows (41 :: l) := rfl
theorem bc91 (l : List UInt8) : [DC.i (91 : Int)] :: brows l = brows (91 :: l) := rfl
theorem bc93 (l : List UInt8) : [DC.i (93 : Int)] :: brows l = brows (93 :: l) := rfl
theorem bc36 (l : List UInt8) : [DC.i (36 : Int)] :: brows l = brows (36 :: l) := rfl
theorem b64 : ([[DC.i (64 : Int)]] : List (List DC)) = brows [64] := rfl
theorem b58 : ([[DC.i (58 : Int)]] : List (List DC)) = brows [58] := rfl
theorem b44 : ([[DC.i (44 : Int)]] : List (List DC)) = brows [44] := rfl
theorem b46 : ([[DC.i (46 : Int)]] : List (List DC)) = brows [46] := rfl
theorem b36 : ([[DC.i (36 : Int)]] : List (List DC)) = brows [36] := rfl
theorem b40 : ([[DC.i (40 : Int)]] : List (List DC)) = brows [40] := rfl
theorem b41 : ([[DC.i (41 : Int)]] : List (List DC)) = brows [41] := rfl
theorem b91 : ([[DC.i (91 : Int)]] : List (List DC)) = brows [91] := rfl
theorem b93 : ([[DC.i (93 : Int)]] : List (List DC)) = brows [93] := rfl
theorem b123 : ([[DC.i (123 : Int)]] : List (List DC)) = brows [123] := rfl
theorem b125 : ([[DC.i (125 : Int)]] : List (List DC)) = brows [125] := rfl
theorem b32 : ([[DC.i (32 : Int)]] : List (List DC)) = brows [32] := rfl
theorem b10 : ([[DC.i (10 : Int)]] : List (List DC)) = brows [10] := rfl
theorem bs : (([[DC.i (64 : Int)]] : List (List DC)) = brows [64]) ∧ (([[DC.i (58 : Int)]] : List (List DC)) = brows [58]) ∧ (([[DC.i (44 : Int)]] : List (List DC)) = brows [44]) ∧ (([[DC.i (46 : Int)]] : List (List DC)) = brows [46]) ∧ (([[DC.i (36 : Int)]] : List (List DC)) = brows [36]) ∧ (([[DC.i (40 : Int)]] : List (List DC)) = brows [40]) ∧ (([[DC.i (41 : Int)]] : List (List DC)) = brows [41]) ∧ (([[DC.i (91 : Int)]] : List (List DC)) = brows [91]) ∧ (([[DC.i (93 : Int)]] : List (List DC)) = brows [93]) ∧ (([[DC.i (123 : Int)]] : List (List DC)) = brows [123]) ∧ (([[DC.i (125 : Int)]] : List (List DC)) = brows [125]) ∧ (([[DC.i (32 : Int)]] : List (List DC)) = brows [32]) ∧ (([[DC.i (10 : Int)]] : List (List DC)) = brows [10]) ∧ (∀ l : List UInt8, [DC.i (44 : Int)] :: brows l = brows (44 :: l)) ∧ (∀ l : List UInt8, [DC.i (58 : Int)] :: brows l = brows (58 :: l)) ∧ (∀ l : List UInt8, [DC.i (32 : Int)] :: brows l = brows (32 :: l)) ∧ (∀ l : List UInt8, [DC.i (46 : Int)] :: brows l = brows (46 :: l)) ∧ (∀ l : List UInt8, [DC.i (123 : Int)] :: brows l = brows (123 :: l)) ∧ (∀ l : List UInt8, [DC.i (64 : Int)] :: brows l = brows (64 :: l)) ∧ (∀ l : List UInt8, [DC.i (10 : Int)] :: brows l = brows (10 :: l)) ∧ (∀ l : List UInt8, [DC.i (125 : Int)] :: brows l = brows (125 :: l)) ∧ (∀ l : List UInt8, [DC.i (40 : Int)] :: brows l = brows (40 :: l)) ∧ (∀ l : List UInt8, [DC.i (41 : Int)] :: brows l = brows (41 :: l)) ∧ (∀ l : List UInt8, [DC.i (91 : Int)] :: brows l = brows (91 :: l)) ∧ (∀ l : List UInt8, [DC.i (93 : Int)] :: brows l = brows (93 :: l)) ∧ (∀ l : List UInt8, [DC.i (36 : Int)] :: brows l = brows (36 :: l)) := by
  and_intros <;> intros <;> rfl
theorem zip_map {α : Type} (g : List UInt8 → List UInt8 → List UInt8) (h : α → List UInt8) : ∀ (ns : List (List UInt8)) (l : List α), List.zipWith g ns (l.map h) = (ns.zip l).map fun p => g p.1 (h p.2)
  | [], l => by simp
  | n :: ns, [] => by simp
  | n :: ns, x :: l => by rw [List.map_cons, List.zipWith_cons_cons, List.zip_cons_cons, List.map_cons, zip_map g h ns l]
theorem spec_l07Say (v : TValue) : wtL v.enc ≤ 1048576 → ∀ room : Int, 0 ≤ room → room ≤ 10 → goodV room v = true → ∀ out : List UInt8, out.length + (valT v).length < 1073741824 →
    r_spec_l07Say [.sl (brows out), .i v.kind, .s v.text, .sl (v.items.map TValue.enc), .sl (v.names.map S1)] = .ret [.sl (brows (out ++ valT v))] := by
  induction v using TValue.ind with | h v ih =>
  intro hw room hr hr2 hg out ho
  obtain ⟨hs1, hs2, hs3⟩ := good_shape v hw room hr hr2 hg
  rw [val_wsum] at hw
  obtain ⟨hIl, hx⟩ := sl_wt (l := v.items) (enc := TValue.enc) (n := 1048576) (by omega)
  rw [eq_spec_l07Say]
  rw [valT_eq] at ho ⊢
  unfold valW at ho ⊢
  by_cases k1 : v.kind = 1
  · have c1 : (v.kind == 1) = true := beq_iff_eq.2 k1
    rw [if_pos k1] at ho ⊢
    simp only [List.length_cons] at ho
    simp (disch := first | omega | (simp only [List.length_append, List.length_cons, List.length_nil, brows_len, LIM] <;> omega) | fail) only [E_spec_l07Say, List.getD_cons_zero, List.getD_cons_succ, DC.bb_b, DC.ii_i, DC.ss_s, DC.ll_sl, bytesRow_eq, brows_app', brows_len, List.length_append, List.length_cons, List.length_nil, LIM, if_true, if_false, Bool.false_eq_true, Out.bindR_ret, Out.andThen_norm, Out.andThenB_ret, Out.andThenB_norm, Out.andThenB_ex, if_pos, Int.toNat_natCast, List.length_map, true_and, and_self, decide_true, b64, b58, b44, b46, b36, b40, b41, b91, b93, b123, b125, b32, b10, bc44, bc58, bc32, bc46, bc123, bc64, bc10, bc125, bc40, bc41, bc91, bc93, bc36, c1]
    rw [List.append_assoc]
    rfl
  have c1 : (v.kind == 1) = false := beq_eq_false_iff_ne.2 k1
  rw [if_neg k1] at ho ⊢
  by_cases k4 : v.kind = 4
  · have c4 : (v.kind == 4) = true := beq_iff_eq.2 k4
    rw [if_pos k4] at ho ⊢
    have he := spec_Escaped v.text (by omega)
    simp (disch := first | omega | (simp only [List.length_append, List.length_cons, List.length_nil, brows_len, LIM] <;> omega) | fail) only [E_spec_l07Say, List.getD_cons_zero, List.getD_cons_succ, DC.bb_b, DC.ii_i, DC.ss_s, DC.ll_sl, bytesRow_eq, brows_app', brows_len, List.length_append, List.length_cons, List.length_nil, LIM, if_true, if_false, Bool.false_eq_true, Out.bindR_ret, Out.andThen_norm, Out.andThenB_ret, Out.andThenB_norm, Out.andThenB_ex, if_pos, Int.toNat_natCast, List.length_map, true_and, and_self, decide_true, b64, b58, b44, b46, b36, b40, b41, b91, b93, b123, b125, b32, b10, bc44, bc58, bc32, bc46, bc123, bc64, bc10, bc125, bc40, bc41, bc91, bc93, bc36, c1, c4, he]
  have c4 : (v.kind == 4) = false := beq_eq_false_iff_ne.2 k4
  rw [if_neg k4] at ho ⊢
  by_cases k7 : v.kind = 7
  · have c7 : (v.kind == 7) = true := beq_iff_eq.2 k7
    have c8 : (v.kind == 8) = false := beq_eq_false_iff_ne.2 (by omega)
    rw [if_pos k7, ← jt_join] at ho ⊢
    simp only [List.length_cons, List.length_append, List.length_nil] at ho
    have hlp := jt_loop (o := []) (sep := [44, 32]) (f := valT) (l := v.items) (st := fun i cur => [.sl (brows cur), .i 93, .i (i : Int), .i v.kind, .s v.text, .sl (v.items.map TValue.enc), .sl (v.names.map S1)]) (F := E_spec_l07SayL1) (res := .ex 1 [.sl (brows ((out ++ [91]) ++ jt [] [44, 32] valT v.items)), .i 93]) (out ++ [91])
      (fun i hi cur hc => ?step) ?fin (Out.esc_ex _ _)
    case fin => simp [E_spec_l07SayL1]
    case step =>
      have hm := List.getElem_mem hi
      have hv := ih v.items[i] hm (hx _ hm) (room - 1) (hs3 _ hm).1 (by omega) (hs3 _ hm).2
      have c2 : 0 ≤ (i : Int) ∧ (i : Int) < (v.items.length : Int) := by omega
      have d : decide ((i : Int) < (v.items.length : Int)) = true := decide_eq_true (by omega)
      have wi := wrap_succ hi (show v.items.length ≤ 9223372036854775807 by omega)
      by_cases h0 : i = 0
      · have d0' : decide ((i : Int) > 0) = false := decide_eq_false (by omega)
        rw [if_pos h0] at hc ⊢
        simp only [List.length_append, List.length_cons, List.length_nil] at hc
        simp (disch := first | omega | (simp only [List.length_append, List.length_cons, List.length_nil, brows_len, LIM] <;> omega) | fail) only [E_spec_l07SayL1, List.getD_cons_zero, List.getD_cons_succ, DC.bb_b, DC.ii_i, DC.ss_s, DC.ll_sl, bytesRow_eq, brows_app', brows_len, List.length_append, List.length_cons, List.length_nil, LIM, if_true, if_false, Bool.false_eq_true, Out.bindR_ret, Out.andThen_norm, Out.andThenB_ret, Out.andThenB_norm, Out.andThenB_ex, if_pos, Int.toNat_natCast, List.length_map, true_and, and_self, decide_true, b64, b58, b44, b46, b36, b40, b41, b91, b93, b123, b125, b32, b10, bc44, bc58, bc32, bc46, bc123, bc64, bc10, bc125, bc40, bc41, bc91, bc93, bc36, map_getD hi, TValue.enc_eq, d, d0', c2, c8, hv, wi]
        simp
      · have d0' : decide ((i : Int) > 0) = true := decide_eq_true (by omega)
        rw [if_neg h0] at hc ⊢
        simp only [List.length_append, List.length_cons, List.length_nil] at hc
        simp (disch := first | omega | (simp only [List.length_append, List.length_cons, List.length_nil, brows_len, LIM] <;> omega) | fail) only [E_spec_l07SayL1, List.getD_cons_zero, List.getD_cons_succ, DC.bb_b, DC.ii_i, DC.ss_s, DC.ll_sl, bytesRow_eq, brows_app', brows_len, List.length_append, List.length_cons, List.length_nil, LIM, if_true, if_false, Bool.false_eq_true, Out.bindR_ret, Out.andThen_norm, Out.andThenB_ret, Out.andThenB_norm, Out.andThenB_ex, if_pos, Int.toNat_natCast, List.length_map, true_and, and_self, decide_true, b64, b58, b44, b46, b36, b40, b41, b91, b93, b123, b125, b32, b10, bc44, bc58, bc32, bc46, bc123, bc64, bc10, bc125, bc40, bc41, bc91, bc93, bc36, map_getD hi, TValue.enc_eq, d, d0', c2, c8, hv, wi]
        simp
    rw [Int.natCast_zero] at hlp
    simp (disch := first | omega | (simp only [List.length_append, List.length_cons, List.length_nil, brows_len, LIM] <;> omega) | fail) only [E_spec_l07Say, List.getD_cons_zero, List.getD_cons_succ, DC.bb_b, DC.ii_i, DC.ss_s, DC.ll_sl, bytesRow_eq, brows_app', brows_len, List.length_append, List.length_cons, List.length_nil, LIM, if_true, if_false, Bool.false_eq_true, Out.bindR_ret, Out.andThen_norm, Out.andThenB_ret, Out.andThenB_norm, Out.andThenB_ex, if_pos, Int.toNat_natCast, List.length_map, true_and, and_self, decide_true, b64, b58, b44, b46, b36, b40, b41, b91, b93, b123, b125, b32, b10, bc44, bc58, bc32, bc46, bc123, bc64, bc10, bc125, bc40, bc41, bc91, bc93, bc36, c1, c4, c7, c8, hlp]
    simp
  have c7 : (v.kind == 7) = false := beq_eq_false_iff_ne.2 k7
  rw [if_neg k7] at ho ⊢
  by_cases k8 : v.kind = 8
  · have c8 : (v.kind == 8) = true := beq_iff_eq.2 k8
    rw [if_pos k8, zip_map, ← jt_join] at ho ⊢
    simp only [List.length_cons, List.length_append, List.length_nil] at ho
    have hn := hs2 k8
    have hzl : (v.names.zip v.items).length = v.items.length := by rw [List.length_zip]; omega
    have hlp := jt_loop (o := []) (sep := [44, 32]) (f := fun p : List UInt8 × TValue => p.1 ++ (58 :: 32 :: valT p.2)) (l := v.names.zip v.items) (st := fun i cur => [.sl (brows cur), .i 125, .i (i : Int), .i v.kind, .s v.text, .sl (v.items.map TValue.enc), .sl (v.names.map S1)]) (F := E_spec_l07SayL1) (res := .ex 1 [.sl (brows ((out ++ [123]) ++ jt [] [44, 32] (fun p : List UInt8 × TValue => p.1 ++ (58 :: 32 :: valT p.2)) (v.names.zip v.items))), .i 125]) (out ++ [123])
      (fun i hi cur hc => ?step2) ?fin2 (Out.esc_ex _ _)
    case fin2 => simp [E_spec_l07SayL1, hzl]
    case step2 =>
      have hi1 : i < v.items.length := by omega
      have hi2 : i < v.names.length := by omega
      have hz : (v.names.zip v.items)[i] = (v.names[i], v.items[i]) := List.getElem_zip
      have hm := List.getElem_mem hi1
      have hv := ih v.items[i] hm (hx _ hm) (room - 1) (hs3 _ hm).1 (by omega) (hs3 _ hm).2
      have c2 : 0 ≤ (i : Int) ∧ (i : Int) < (v.items.length : Int) := by omega
      have c3 : 0 ≤ (i : Int) ∧ (i : Int) < (v.names.length : Int) := by omega
      have d : decide ((i : Int) < (v.items.length : Int)) = true := decide_eq_true (by omega)
      have wi := wrap_succ hi1 (show v.items.length ≤ 9223372036854775807 by omega)
      rw [hz] at hc ⊢
      by_cases h0 : i = 0
      · have d0' : decide ((i : Int) > 0) = false := decide_eq_false (by omega)
        rw [if_pos h0] at hc ⊢
        simp only [List.length_append, List.length_cons, List.length_nil] at hc
        simp (disch := first | omega | (simp only [List.length_append, List.length_cons, List.length_nil, brows_len, LIM] <;> omega) | fail) only [E_spec_l07SayL1, List.getD_cons_zero, List.getD_cons_succ, DC.bb_b, DC.ii_i, DC.ss_s, DC.ll_sl, bytesRow_eq, brows_app', brows_len, List.length_append, List.length_cons, List.length_nil, LIM, if_true, if_false, Bool.false_eq_true, Out.bindR_ret, Out.andThen_norm, Out.andThenB_ret, Out.andThenB_norm, Out.andThenB_ex, if_pos, Int.toNat_natCast, List.length_map, true_and, and_self, decide_true, b64, b58, b44, b46, b36, b40, b41, b91, b93, b123, b125, b32, b10, bc44, bc58, bc32, bc46, bc123, bc64, bc10, bc125, bc40, bc41, bc91, bc93, bc36, map_getD hi1, map_getD hi2, S1, TValue.enc_eq, d, d0', c2, c3, c8, hv, wi]
        simp
      · have d0' : decide ((i : Int) > 0) = true := decide_eq_true (by omega)
        rw [if_neg h0] at hc ⊢
        simp only [List.length_append, List.length_cons, List.length_nil] at hc
        simp (disch := first | omega | (simp only [List.length_append, List.length_cons, List.length_nil, brows_len, LIM] <;> omega) | fail) only [E_spec_l07SayL1, List.getD_cons_zero, List.getD_cons_succ, DC.bb_b, DC.ii_i, DC.ss_s, DC.ll_sl, bytesRow_eq, brows_app', brows_len, List.length_append, List.length_cons, List.length_nil, LIM, if_true, if_false, Bool.false_eq_true, Out.bindR_ret, Out.andThen_norm, Out.andThenB_ret, Out.andThenB_norm, Out.andThenB_ex, if_pos, Int.toNat_natCast, List.length_map, true_and, and_self, decide_true, b64, b58, b44, b46, b36, b40, b41, b91, b93, b123, b125, b32, b10, bc44, bc58, bc32, bc46, bc123, bc64, bc10, bc125, bc40, bc41, bc91, bc93, bc36, map_getD hi1, map_getD hi2, S1, TValue.enc_eq, d, d0', c2, c3, c8, hv, wi]
        simp
    rw [Int.natCast_zero] at hlp
    simp (disch := first | omega | (simp only [List.length_append, List.length_cons, List.length_nil, brows_len, LIM] <;> omega) | fail) only [E_spec_l07Say, List.getD_cons_zero, List.getD_cons_succ, DC.bb_b, DC.ii_i, DC.ss_s, DC.ll_sl, bytesRow_eq, brows_app', brows_len, List.length_append, List.length_cons, List.length_nil, LIM, if_true, if_false, Bool.false_eq_true, Out.bindR_ret, Out.andThen_norm, Out.andThenB_ret, Out.andThenB_norm, Out.andThenB_ex, if_pos, Int.toNat_natCast, List.length_map, true_and, and_self, decide_true, b64, b58, b44, b46, b36, b40, b41, b91, b93, b123, b125, b32, b10, bc44, bc58, bc32, bc46, bc123, bc64, bc10, bc125, bc40, bc41, bc91, bc93, bc36, c1, c4, c7, c8, hlp]
    simp
  have c8 : (v.kind == 8) = false := beq_eq_false_iff_ne.2 k8
  rw [if_neg k8] at ho ⊢
  simp (disch := first | omega | (simp only [List.length_append, List.length_cons, List.length_nil, brows_len, LIM] <;> omega) | fail) only [E_spec_l07Say, List.getD_cons_zero, List.getD_cons_succ, DC.bb_b, DC.ii_i, DC.ss_s, DC.ll_sl, bytesRow_eq, brows_app', brows_len, List.length_append, List.length_cons, List.length_nil, LIM, if_true, if_false, Bool.false_eq_true, Out.bindR_ret, Out.andThen_norm, Out.andThenB_ret, Out.andThenB_norm, Out.andThenB_ex, if_pos, Int.toNat_natCast, List.length_map, true_and, and_self, decide_true, b64, b58, b44, b46, b36, b40, b41, b91, b93, b123, b125, b32, b10, bc44, bc58, bc32, bc46, bc123, bc64, bc10, bc125, bc40, bc41, bc91, bc93, bc36, c1, c4, c7, c8]
theorem Join_ok (ws : List (List UInt8)) (h : ws.length ≤ 1048576) (h2 : (Lib.join ws [44, 32]).length ≤ 1073741824) : r_strings_Join [.sl (ws.map fun x => [DC.s x]), .s [44, 32]] = .ret [.s (Lib.join ws [44, 32])] := by
  rw [eq_strings_Join]
  have : E_strings_Join [.sl (ws.map fun x => [DC.s x]), .s [44, 32]] = (match (match qJoin (ws.map fun x => [DC.s x]) [44, 32] with | some r => some [DC.s r] | none => none) with | some r => Out.ret r | none => .fail) := rfl
  rw [this, join_words ws _ (by omega) (by omega)]
theorem impl_printValue (v : TValue) : wtL v.enc ≤ 1048576 → ∀ room : Int, 0 ≤ room → room ≤ 10 → goodV room v = true → r_impl_printValue [.i v.kind, .s v.text, .sl (v.items.map TValue.enc), .sl (v.names.map S1)] = .ret [.s (valT v)] := by
  induction v using TValue.ind with | h v ih =>
  intro hw room hr hr2 hg
  obtain ⟨hs1, hs2, hs3⟩ := good_shape v hw room hr hr2 hg
  have hlen := valT_len v
  have hb : (valT v).length ≤ 8388610 := by omega
  clear hlen
  rw [val_wsum] at hw
  obtain ⟨hIl, hx⟩ := sl_wt (l := v.items) (enc := TValue.enc) (n := 1048576) (by omega)
  have hns := (strs_len (l := v.names) (by omega)).2
  rw [eq_impl_printValue]
  rw [valT_eq] at hb ⊢
  unfold valW at hb ⊢
  have hempty : v.items = [] → Loop E_impl_printValueL1 [.sl [], .sl (v.items.map TValue.enc), .i (v.items.length : Int), .i 0, .i v.kind, .s v.text, .sl (v.items.map TValue.enc), .sl (v.names.map S1)] = .ex 0 [.sl ((([] : List (List UInt8))).map fun x => [DC.s x]), .i v.kind, .s v.text, .sl (v.items.map TValue.enc), .sl (v.names.map S1)] := by
    intro h
    rw [h]
    refine Loop_ex ?_
    simp [E_impl_printValueL1]
  have hJ0 := Join_ok [] (by simp) (by simp [Lib.join])
  rw [show Lib.join ([] : List (List UInt8)) [44, 32] = [] from rfl] at hJ0
  by_cases k1 : v.kind = 1
  · have c1 : (v.kind == 1) = true := beq_iff_eq.2 k1
    have hl := hempty (hs1 (by omega) (by omega))
    rw [if_pos k1] at hb ⊢
    simp only [List.length_cons] at hb
    simp (disch := first | omega | (simp only [List.length_append, List.length_cons, List.length_nil, brows_len, LIM] <;> omega) | fail) only [E_impl_printValue, List.getD_cons_zero, List.getD_cons_succ, DC.bb_b, DC.ii_i, DC.ss_s, DC.ll_sl, bytesRow_eq, brows_app', brows_len, List.length_append, List.length_cons, List.length_nil, LIM, if_true, if_false, Bool.false_eq_true, Out.bindR_ret, Out.andThen_norm, Out.andThenB_ret, Out.andThenB_norm, Out.andThenB_ex, if_pos, Int.toNat_natCast, List.length_map, true_and, and_self, decide_true, b64, b58, b44, b46, b36, b40, b41, b91, b93, b123, b125, b32, b10, bc44, bc58, bc32, bc46, bc123, bc64, bc10, bc125, bc40, bc41, bc91, bc93, bc36, hl, hJ0, c1]
    rfl
  have c1 : (v.kind == 1) = false := beq_eq_false_iff_ne.2 k1
  rw [if_neg k1] at hb ⊢
  by_cases k4 : v.kind = 4
  · have c4 : (v.kind == 4) = true := beq_iff_eq.2 k4
    have hl := hempty (hs1 (by omega) (by omega))
    rw [if_pos k4] at hb ⊢
    have he := impl_Escaped v.text (by omega)
    simp (disch := first | omega | (simp only [List.length_append, List.length_cons, List.length_nil, brows_len, LIM] <;> omega) | fail) only [E_impl_printValue, List.getD_cons_zero, List.getD_cons_succ, DC.bb_b, DC.ii_i, DC.ss_s, DC.ll_sl, bytesRow_eq, brows_app', brows_len, List.length_append, List.length_cons, List.length_nil, LIM, if_true, if_false, Bool.false_eq_true, Out.bindR_ret, Out.andThen_norm, Out.andThenB_ret, Out.andThenB_norm, Out.andThenB_ex, if_pos, Int.toNat_natCast, List.length_map, true_and, and_self, decide_true, b64, b58, b44, b46, b36, b40, b41, b91, b93, b123, b125, b32, b10, bc44, bc58, bc32, bc46, bc123, bc64, bc10, bc125, bc40, bc41, bc91, bc93, bc36, hl, hJ0, c1, c4, he]
  have c4 : (v.kind == 4) = false := beq_eq_false_iff_ne.2 k4
  rw [if_neg k4] at hb ⊢
  by_cases k7 : v.kind = 7
  · have c7 : (v.kind == 7) = true := beq_iff_eq.2 k7
    have c8 : (v.kind == 8) = false := beq_eq_false_iff_ne.2 (by omega)
    rw [if_pos k7] at hb ⊢
    simp only [List.length_cons, List.length_append, List.length_nil] at hb
    have hJ := Join_ok (v.items.map valT) (by rw [List.length_map]; exact hIl) (by omega)
    have hlp := words_loop (w := valT) (l := v.items) (st := fun i cur => [.sl cur, .sl (v.items.map TValue.enc), .i (v.items.length : Int), .i (i : Int), .i v.kind, .s v.text, .sl (v.items.map TValue.enc), .sl (v.names.map S1)]) (F := E_impl_printValueL1) (res := .ex 0 [.sl ((v.items.map valT).map fun x => [DC.s x]), .i v.kind, .s v.text, .sl (v.items.map TValue.enc), .sl (v.names.map S1)])
      (fun i hi cur hc => ?step) ?fin (Out.esc_ex _ _)
    case fin => simp [E_impl_printValueL1, Function.comp_def]
    case step =>
      have hm := List.getElem_mem hi
      have hv := ih v.items[i] hm (hx _ hm) (room - 1) (hs3 _ hm).1 (by omega) (hs3 _ hm).2
      have c2 : 0 ≤ (i : Int) ∧ (i : Int) < (v.items.length : Int) := by omega
      have d : decide ((i : Int) < (v.items.length : Int)) = true := decide_eq_true (by omega)
      have wi := wrap_succ hi (show v.items.length ≤ 9223372036854775807 by omega)
      simp (disch := first | omega | (simp only [List.length_append, List.length_cons, List.length_nil, brows_len, LIM] <;> omega) | fail) only [E_impl_printValueL1, List.getD_cons_zero, List.getD_cons_succ, DC.bb_b, DC.ii_i, DC.ss_s, DC.ll_sl, bytesRow_eq, brows_app', brows_len, List.length_append, List.length_cons, List.length_nil, LIM, if_true, if_false, Bool.false_eq_true, Out.bindR_ret, Out.andThen_norm, Out.andThenB_ret, Out.andThenB_norm, Out.andThenB_ex, if_pos, Int.toNat_natCast, List.length_map, true_and, and_self, decide_true, b64, b58, b44, b46, b36, b40, b41, b91, b93, b123, b125, b32, b10, bc44, bc58, bc32, bc46, bc123, bc64, bc10, bc125, bc40, bc41, bc91, bc93, bc36, map_getD hi, TValue.enc_eq, d, c2, c8, hv, wi]
    rw [Int.natCast_zero] at hlp
    simp (disch := first | omega | (simp only [List.length_append, List.length_cons, List.length_nil, brows_len, LIM] <;> omega) | fail) only [E_impl_printValue, List.getD_cons_zero, List.getD_cons_succ, DC.bb_b, DC.ii_i, DC.ss_s, DC.ll_sl, bytesRow_eq, brows_app', brows_len, List.length_append, List.length_cons, List.length_nil, LIM, if_true, if_false, Bool.false_eq_true, Out.bindR_ret, Out.andThen_norm, Out.andThenB_ret, Out.andThenB_norm, Out.andThenB_ex, if_pos, Int.toNat_natCast, List.length_map, true_and, and_self, decide_true, b64, b58, b44, b46, b36, b40, b41, b91, b93, b123, b125, b32, b10, bc44, bc58, bc32, bc46, bc123, bc64, bc10, bc125, bc40, bc41, bc91, bc93, bc36, c1, c4, c7, c8, hlp, hJ]
    simp
  have c7 : (v.kind == 7) = false := beq_eq_false_iff_ne.2 k7
  rw [if_neg k7] at hb ⊢
  by_cases k8 : v.kind = 8
  · have c8 : (v.kind == 8) = true := beq_iff_eq.2 k8
    rw [if_pos k8, zip_map] at hb ⊢
    simp only [List.length_cons, List.length_append, List.length_nil] at hb
    have hn := hs2 k8
    have hzl : (v.names.zip v.items).length = v.items.length := by rw [List.length_zip]; omega
    have hJ := Join_ok ((v.names.zip v.items).map fun p => p.1 ++ (58 :: 32 :: valT p.2)) (by rw [List.length_map]; omega) (by omega)
    have hlp := words_loop (w := fun p : List UInt8 × TValue => p.1 ++ (58 :: 32 :: valT p.2)) (l := v.names.zip v.items) (st := fun i cur => [.sl cur, .sl (v.items.map TValue.enc), .i (v.items.length : Int), .i (i : Int), .i v.kind, .s v.text, .sl (v.items.map TValue.enc), .sl (v.names.map S1)]) (F := E_impl_printValueL1) (res := .ex 0 [.sl (((v.names.zip v.items).map fun p => p.1 ++ (58 :: 32 :: valT p.2)).map fun x => [DC.s x]), .i v.kind, .s v.text, .sl (v.items.map TValue.enc), .sl (v.names.map S1)])
      (fun i hi cur hc => ?step2) ?fin2 (Out.esc_ex _ _)
    case fin2 => simp [E_impl_printValueL1, hzl, Function.comp_def]
    case step2 =>
      have hi1 : i < v.items.length := by omega
      have hi2 : i < v.names.length := by omega
      have hz : (v.names.zip v.items)[i] = (v.names[i], v.items[i]) := List.getElem_zip
      have hm := List.getElem_mem hi1
      have hv := ih v.items[i] hm (hx _ hm) (room - 1) (hs3 _ hm).1 (by omega) (hs3 _ hm).2
      have hlv := valT_len v.items[i]
      have hwv := hx _ hm
      have hnl := hns _ (List.getElem_mem hi2)
      have c2 : 0 ≤ (i : Int) ∧ (i : Int) < (v.items.length : Int) := by omega
      have c3 : 0 ≤ (i : Int) ∧ (i : Int) < (v.names.length : Int) := by omega
      have d : decide ((i : Int) < (v.items.length : Int)) = true := decide_eq_true (by omega)
      have wi := wrap_succ hi1 (show v.items.length ≤ 9223372036854775807 by omega)
      rw [hz]
      simp (disch := first | omega | (simp only [List.length_append, List.length_cons, List.length_nil, brows_len, LIM] <;> omega) | fail) only [E_impl_printValueL1, List.getD_cons_zero, List.getD_cons_succ, DC.bb_b, DC.ii_i, DC.ss_s, DC.ll_sl, bytesRow_eq, brows_app', brows_len, List.length_append, List.length_cons, List.length_nil, LIM, if_true, if_false, Bool.false_eq_true, Out.bindR_ret, Out.andThen_norm, Out.andThenB_ret, Out.andThenB_norm, Out.andThenB_ex, if_pos, Int.toNat_natCast, List.length_map, true_and, and_self, decide_true, b64, b58, b44, b46, b36, b40, b41, b91, b93, b123, b125, b32, b10, bc44, bc58, bc32, bc46, bc123, bc64, bc10, bc125, bc40, bc41, bc91, bc93, bc36, map_getD hi1, map_getD hi2, S1, TValue.enc_eq, d, c2, c3, c8, hv, wi]
      simp
    rw [Int.natCast_zero] at hlp
    simp (disch := first | omega | (simp only [List.length_append, List.length_cons, List.length_nil, brows_len, LIM] <;> omega) | fail) only [E_impl_printValue, List.getD_cons_zero, List.getD_cons_succ, DC.bb_b, DC.ii_i, DC.ss_s, DC.ll_sl, bytesRow_eq, brows_app', brows_len, List.length_append, List.length_cons, List.length_nil, LIM, if_true, if_false, Bool.false_eq_true, Out.bindR_ret, Out.andThen_norm, Out.andThenB_ret, Out.andThenB_norm, Out.andThenB_ex, if_pos, Int.toNat_natCast, List.length_map, true_and, and_self, decide_true, b64, b58, b44, b46, b36, b40, b41, b91, b93, b123, b125, b32, b10, bc44, bc58, bc32, bc46, bc123, bc64, bc10, bc125, bc40, bc41, bc91, bc93, bc36, c1, c4, c7, c8, hlp, hJ]
    simp
  have c8 : (v.kind == 8) = false := beq_eq_false_iff_ne.2 k8
  have hl := hempty (hs1 k7 k8)
  rw [if_neg k8] at hb ⊢
  simp (disch := first | omega | (simp only [List.length_append, List.length_cons, List.length_nil, brows_len, LIM] <;> omega) | fail) only [E_impl_printValue, List.getD_cons_zero, List.getD_cons_succ, DC.bb_b, DC.ii_i, DC.ss_s, DC.ll_sl, bytesRow_eq, brows_app', brows_len, List.length_append, List.length_cons, List.length_nil, LIM, if_true, if_false, Bool.false_eq_true, Out.bindR_ret, Out.andThen_norm, Out.andThenB_ret, Out.andThenB_norm, Out.andThenB_ex, if_pos, Int.toNat_natCast, List.length_map, true_and, and_self, decide_true, b64, b58, b44, b46, b36, b40, b41, b91, b93, b123, b125, b32, b10, bc44, bc58, bc32, bc46, bc123, bc64, bc10, bc125, bc40, bc41, bc91, bc93, bc36, hl, hJ0, c1, c4, c7, c8]
theorem arg_good {l : List TArg} (hg : argsOk l = true) {a : TArg} (ha : a ∈ l) : goodV 10 a.value = true := by
  have := List.all_eq_true.1 hg a ha
  simp only [argOk, Bool.and_eq_true] at this
  exact this.2
theorem dir_good {l : List TDir} (hg : dirsOk l = true) {d : TDir} (hd : d ∈ l) : argsOk d.args = true := by
  have := List.all_eq_true.1 hg d hd
  simp only [dirOk, Bool.and_eq_true] at this
  exact this.2
theorem spec_l10Say (l : List TArg) (hw : DC.wt (.sl (l.map TArg.enc)) ≤ 1048576) (hg : argsOk l = true) (out : List UInt8) (ho : out.length + (argsT l).length < 1073741824) :
    r_spec_l10Say [.sl (brows out), .sl (l.map TArg.enc)] = .ret [.sl (brows (out ++ argsT l))] := by
  obtain ⟨hl, hx⟩ := sl_wt hw
  unfold argsT at ho ⊢
  rw [List.length_append] at ho
  have hlp := jt_loop (o := [40]) (sep := [44, 32]) (f := argT) (l := l) (st := fun i cur => [.sl (brows cur), .sl (l.map TArg.enc), .i (i : Int)]) (F := E_spec_l10SayL1) (res := .ex 0 [.sl (brows (out ++ jt [40] [44, 32] argT l)), .sl (l.map TArg.enc)]) out
    (fun i hi cur hc => ?step) ?fin (Out.esc_ex _ _)
  case fin => simp [E_spec_l10SayL1]
  case step =>
    have hm := List.getElem_mem hi
    have hwv := hx _ hm
    rw [arg_wt] at hwv
    have hv := spec_l07Say l[i].value (by omega) 10 (by omega) (by omega) (arg_good hg hm)
    have c2 : 0 ≤ (i : Int) ∧ (i : Int) < (l.length : Int) := by omega
    have d : decide ((i : Int) < (l.length : Int)) = true := decide_eq_true (by omega)
    have wi := wrap_succ hi (show l.length ≤ 9223372036854775807 by omega)
    unfold argT at hc ⊢
    by_cases h0 : i = 0
    · have c0 : ((i : Int) == 0) = true := beq_iff_eq.2 (by omega)
      rw [if_pos h0] at hc ⊢
      simp only [List.length_append, List.length_cons, List.length_nil] at hc
      unfold argT at ho
      simp (disch := first | omega | (simp only [List.length_append, List.length_cons, List.length_nil, brows_len, LIM] <;> omega) | fail) only [E_spec_l10SayL1, List.getD_cons_zero, List.getD_cons_succ, DC.bb_b, DC.ii_i, DC.ss_s, DC.ll_sl, bytesRow_eq, brows_app', brows_len, List.length_append, List.length_cons, List.length_nil, LIM, if_true, if_false, Bool.false_eq_true, Out.bindR_ret, Out.andThen_norm, Out.andThenB_ret, Out.andThenB_norm, Out.andThenB_ex, if_pos, Int.toNat_natCast, List.length_map, true_and, and_self, decide_true, b64, b58, b44, b46, b36, b40, b41, b91, b93, b123, b125, b32, b10, bc44, bc58, bc32, bc46, bc123, bc64, bc10, bc125, bc40, bc41, bc91, bc93, bc36, map_getD hi, TArg.enc_eq, d, c0, c2, hv, wi]
      simp
    · have c0 : ((i : Int) == 0) = false := beq_eq_false_iff_ne.2 (by omega)
      rw [if_neg h0] at hc ⊢
      simp only [List.length_append, List.length_cons, List.length_nil] at hc
      unfold argT at ho
      simp (disch := first | omega | (simp only [List.length_append, List.length_cons, List.length_nil, brows_len, LIM] <;> omega) | fail) only [E_spec_l10SayL1, List.getD_cons_zero, List.getD_cons_succ, DC.bb_b, DC.ii_i, DC.ss_s, DC.ll_sl, bytesRow_eq, brows_app', brows_len, List.length_append, List.length_cons, List.length_nil, LIM, if_true, if_false, Bool.false_eq_true, Out.bindR_ret, Out.andThen_norm, Out.andThenB_ret, Out.andThenB_norm, Out.andThenB_ex, if_pos, Int.toNat_natCast, List.length_map, true_and, and_self, decide_true, b64, b58, b44, b46, b36, b40, b41, b91, b93, b123, b125, b32, b10, bc44, bc58, bc32, bc46, bc123, bc64, bc10, bc125, bc40, bc41, bc91, bc93, bc36, map_getD hi, TArg.enc_eq, d, c0, c2, hv, wi]
      simp
  rw [Int.natCast_zero] at hlp
  rw [eq_spec_l10Say]
  cases l with
  | nil => simp at hlp; simp [E_spec_l10Say, hlp]
  | cons a l =>
    have hpos : decide ((((a :: l).map TArg.enc).length : Int) > 0) = true := decide_eq_true (by simp)
    simp only [List.isEmpty_cons, Bool.false_eq_true, if_false, List.length_cons, List.length_nil] at ho
    simp only [List.length_map] at hpos
    simp (disch := first | omega | (simp only [List.length_append, List.length_cons, List.length_nil, brows_len, LIM] <;> omega) | fail) only [E_spec_l10Say, List.getD_cons_zero, List.getD_cons_succ, DC.bb_b, DC.ii_i, DC.ss_s, DC.ll_sl, bytesRow_eq, brows_app', brows_len, List.length_append, List.length_cons, List.length_nil, LIM, if_true, if_false, Bool.false_eq_true, Out.bindR_ret, Out.andThen_norm, Out.andThenB_ret, Out.andThenB_norm, Out.andThenB_ex, if_pos, Int.toNat_natCast, List.length_map, true_and, and_self, decide_true, b64, b58, b44, b46, b36, b40, b41, b91, b93, b123, b125, b32, b10, bc44, bc58, bc32, bc46, bc123, bc64, bc10, bc125, bc40, bc41, bc91, bc93, bc36, hlp, hpos, List.isEmpty_cons]
    simp
theorem spec_l10SayDirs (l : List TDir) (hw : DC.wt (.sl (l.map TDir.enc)) ≤ 1048576) (hg : dirsOk l = true) (out : List UInt8) (ho : out.length + (dirsT l).length < 1073741824) :
    r_spec_l10SayDirs [.sl (brows out), .sl (l.map TDir.enc)] = .ret [.sl (brows (out ++ dirsT l))] := by
  obtain ⟨hl, hx⟩ := sl_wt hw
  unfold dirsT at ho ⊢
  have hlp := jt_loop (o := []) (sep := []) (f := dirT) (l := l) (st := fun i cur => [.sl (brows cur), .sl (l.map TDir.enc), .i (i : Int)]) (F := E_spec_l10SayDirsL1) (res := .ex 0 [.sl (brows (out ++ jt [] [] dirT l))]) out
    (fun i hi cur hc => ?step) ?fin (Out.esc_ex _ _)
  case fin => simp [E_spec_l10SayDirsL1]
  case step =>
    have hm := List.getElem_mem hi
    have hwv := hx _ hm
    rw [dir_wt] at hwv
    have hv := spec_l10Say l[i].args (by omega) (dir_good hg hm)
    have c2 : 0 ≤ (i : Int) ∧ (i : Int) < (l.length : Int) := by omega
    have d : decide ((i : Int) < (l.length : Int)) = true := decide_eq_true (by omega)
    have wi := wrap_succ hi (show l.length ≤ 9223372036854775807 by omega)
    rw [ite_self, List.nil_append] at hc ⊢
    unfold dirT at hc ⊢
    simp only [List.length_append, List.length_cons, List.length_nil] at hc
    unfold dirT at ho
    simp (disch := first | omega | (simp only [List.length_append, List.length_cons, List.length_nil, brows_len, LIM] <;> omega) | fail) only [E_spec_l10SayDirsL1, List.getD_cons_zero, List.getD_cons_succ, DC.bb_b, DC.ii_i, DC.ss_s, DC.ll_sl, bytesRow_eq, brows_app', brows_len, List.length_append, List.length_cons, List.length_nil, LIM, if_true, if_false, Bool.false_eq_true, Out.bindR_ret, Out.andThen_norm, Out.andThenB_ret, Out.andThenB_norm, Out.andThenB_ex, if_pos, Int.toNat_natCast, List.length_map, true_and, and_self, decide_true, b64, b58, b44, b46, b36, b40, b41, b91, b93, b123, b125, b32, b10, bc44, bc58, bc32, bc46, bc123, bc64, bc10, bc125, bc40, bc41, bc91, bc93, bc36, map_getD hi, TDir.enc_eq, d, c2, hv, wi]
    simp
  rw [Int.natCast_zero] at hlp
  rw [eq_spec_l10SayDirs]
  simp only [E_spec_l10SayDirs, List.getD_cons_zero, List.getD_cons_succ, DC.bb_b, DC.ii_i, DC.ss_s, DC.ll_sl, hlp, Out.andThenB_ex, if_true]
theorem impl_ArgsText (l : List TArg) (hw : DC.wt (.sl (l.map TArg.enc)) ≤ 1048576) (hg : argsOk l = true) : r_impl_ArgsText [.sl (l.map TArg.enc)] = .ret [.s (argsT l)] := by
  obtain ⟨hl, hx⟩ := sl_wt hw
  have hb := args_len l
  have hA := impl_ArgsOk l hw
  rw [hg] at hA
  rw [eq_impl_ArgsText]
  cases l with
  | nil => simp [E_impl_ArgsText, argsT_nil]
  | cons a0 l0 =>
    have hz : ((((a0 :: l0).map TArg.enc).length : Int) == 0) = false := beq_eq_false_iff_ne.2 (by simp; omega)
    rw [argsT_cons] at hb ⊢
    generalize hL : a0 :: l0 = l at *
    simp only [List.length_cons, List.length_append, List.length_nil] at hb
    have hJ := Join_ok (l.map argT) (by rw [List.length_map]; exact hl) (by omega)
    have hlp := words_loop (w := argT) (l := l) (st := fun i cur => [.sl cur, .sl (l.map TArg.enc), .i (l.length : Int), .i (i : Int)]) (F := E_impl_ArgsTextL1) (res := .ex 0 [.sl ((l.map argT).map fun x => [DC.s x])])
      (fun i hi cur hc => ?step) ?fin (Out.esc_ex _ _)
    case fin => simp [E_impl_ArgsTextL1, Function.comp_def]
    case step =>
      have hm := List.getElem_mem hi
      have hwv := hx _ hm
      have hla := arg_len l[i]
      rw [arg_wt] at hwv hla
      have hv := impl_printValue l[i].value (by omega) 10 (by omega) (by omega) (arg_good hg hm)
      have c2 : 0 ≤ (i : Int) ∧ (i : Int) < (l.length : Int) := by omega
      have d : decide ((i : Int) < (l.length : Int)) = true := decide_eq_true (by omega)
      have wi := wrap_succ hi (show l.length ≤ 9223372036854775807 by omega)
      unfold argT at hla ⊢
      simp only [List.length_append, List.length_cons] at hla
      simp (disch := first | omega | (simp only [List.length_append, List.length_cons, List.length_nil, brows_len, LIM] <;> omega) | fail) only [E_impl_ArgsTextL1, List.getD_cons_zero, List.getD_cons_succ, DC.bb_b, DC.ii_i, DC.ss_s, DC.ll_sl, bytesRow_eq, brows_app', brows_len, List.length_append, List.length_cons, List.length_nil, LIM, if_true, if_false, Bool.false_eq_true, Out.bindR_ret, Out.andThen_norm, Out.andThenB_ret, Out.andThenB_norm, Out.andThenB_ex, if_pos, Int.toNat_natCast, List.length_map, true_and, and_self, decide_true, b64, b58, b44, b46, b36, b40, b41, b91, b93, b123, b125, b32, b10, bc44, bc58, bc32, bc46, bc123, bc64, bc10, bc125, bc40, bc41, bc91, bc93, bc36, map_getD hi, TArg.enc_eq, d, c2, hv, wi]
      simp
    rw [Int.natCast_zero] at hlp
    simp only [List.length_map] at hz
    simp (disch := first | omega | (simp only [List.length_append, List.length_cons, List.length_nil, brows_len, LIM] <;> omega) | fail) only [E_impl_ArgsText, List.getD_cons_zero, List.getD_cons_succ, DC.bb_b, DC.ii_i, DC.ss_s, DC.ll_sl, bytesRow_eq, brows_app', brows_len, List.length_append, List.length_cons, List.length_nil, LIM, if_true, if_false, Bool.false_eq_true, Out.bindR_ret, Out.andThen_norm, Out.andThenB_ret, Out.andThenB_norm, Out.andThenB_ex, if_pos, Int.toNat_natCast, List.length_map, true_and, and_self, decide_true, b64, b58, b44, b46, b36, b40, b41, b91, b93, b123, b125, b32, b10, bc44, bc58, bc32, bc46, bc123, bc64, bc10, bc125, bc40, bc41, bc91, bc93, bc36, hz, hA, hlp, hJ, Bool.not_true]
    simp
theorem impl_DirsText (l : List TDir) (hw : DC.wt (.sl (l.map TDir.enc)) ≤ 1048576) (hg : dirsOk l = true) : r_impl_DirsText [.sl (l.map TDir.enc)] = .ret [.s (dirsT l)] := by
  obtain ⟨hl, hx⟩ := sl_wt hw
  have hb := dirs_len l
  have hA := impl_DirsOk l hw
  rw [hg] at hA
  rw [eq_impl_DirsText]
  unfold dirsT at hb ⊢
  have hlp := jt_loop (o := []) (sep := []) (f := dirT) (l := l) (st := fun i cur => [.s cur, .sl (l.map TDir.enc), .i (l.length : Int), .i (i : Int)]) (F := E_impl_DirsTextL1) (res := .ex 0 [.s ([] ++ jt [] [] dirT l)]) []
    (fun i hi cur hc => ?step) ?fin (Out.esc_ex _ _)
  case fin => simp [E_impl_DirsTextL1]
  case step =>
    have hm := List.getElem_mem hi
    have hwv := hx _ hm
    rw [dir_wt] at hwv
    have hv := impl_ArgsText l[i].args (by omega) (dir_good hg hm)
    have hla := args_len l[i].args
    have c2 : 0 ≤ (i : Int) ∧ (i : Int) < (l.length : Int) := by omega
    have d : decide ((i : Int) < (l.length : Int)) = true := decide_eq_true (by omega)
    have wi := wrap_succ hi (show l.length ≤ 9223372036854775807 by omega)
    rw [ite_self, List.nil_append] at hc ⊢
    unfold dirT at hc ⊢
    simp only [List.length_append, List.length_cons, List.length_nil] at hc
    unfold dirT at hb
    simp (disch := first | omega | (simp only [List.length_append, List.length_cons, List.length_nil, brows_len, LIM] <;> omega) | fail) only [E_impl_DirsTextL1, List.getD_cons_zero, List.getD_cons_succ, DC.bb_b, DC.ii_i, DC.ss_s, DC.ll_sl, bytesRow_eq, brows_app', brows_len, List.length_append, List.length_cons, List.length_nil, LIM, if_true, if_false, Bool.false_eq_true, Out.bindR_ret, Out.andThen_norm, Out.andThenB_ret, Out.andThenB_norm, Out.andThenB_ex, if_pos, Int.toNat_natCast, List.length_map, true_and, and_self, decide_true, b64, b58, b44, b46, b36, b40, b41, b91, b93, b123, b125, b32, b10, bc44, bc58, bc32, bc46, bc123, bc64, bc10, bc125, bc40, bc41, bc91, bc93, bc36, map_getD hi, TDir.enc_eq, d, c2, hv, wi]
    simp
  rw [Int.natCast_zero, List.nil_append] at hlp
  simp only [E_impl_DirsText, List.getD_cons_zero, List.getD_cons_succ, DC.bb_b, DC.ii_i, DC.ss_s, DC.ll_sl, hA, hlp, List.length_map, Bool.not_true, Bool.false_eq_true, if_false, Out.bindR_ret, Out.andThenB_ex, if_true]
theorem impl_SelOk (v : TSel) (hw : wtL v.enc ≤ 1048576) : r_impl_SelOk [.i v.kind, .s v.alias, .s v.name, .s v.on', .sl (v.args.map TArg.enc), .sl (v.dirs.map TDir.enc), .sl (v.sels.map TSel.enc)] = .ret [.b (selOk v)] := by
  have h1 := ((sel_same v hw 10 (by omega) (by omega)).2 120 (by omega) (by omega)).1
  rw [eq_impl_SelOk]
  simp only [E_impl_SelOk, List.getD_cons_zero, List.getD_cons_succ, DC.bb_b, DC.ii_i, DC.ss_s, DC.ll_sl, h1, Out.bindR_ret, selOk]
theorem blanks_len (n : Nat) : (blanks n).length = 2 * n := by simp [blanks]
theorem spec_l11Blanks (n : Nat) (hn : n ≤ 1000) (out : List UInt8) (ho : out.length + 2 * n < 1073741824) : r_spec_l11Blanks [.sl (brows out), .i (n : Int)] = .ret [.sl (brows (out ++ blanks n))] := by
  have hw : IntKind.i64.wrap (2 * (n : Int)) = ((2 * n : Nat) : Int) := by rw [wrap64 (by omega) (by omega)]; omega
  have h := Loop_upto (F := E_spec_l11BlanksL1) (st := fun i => [.sl (brows (out ++ List.replicate i 32)), .i (n : Int), .i (i : Int)]) (o := .ex 0 [.sl (brows (out ++ blanks n))]) (2 * n) 0 (fun j _ hj => ?step) ?fin
  case step =>
    have d : decide ((j : Int) < ((2 * n : Nat) : Int)) = true := decide_eq_true (by omega)
    have wi : IntKind.i64.wrap ((j : Int) + 1) = ((j + 1 : Nat) : Int) := by rw [wrap64 (by omega) (by omega)]; omega
    try dsimp only
    rw [List.replicate_succ', ← List.append_assoc]
    simp (disch := first | omega | (simp only [List.length_append, List.length_cons, List.length_nil, List.length_replicate] <;> omega) | fail) only [E_spec_l11BlanksL1, List.getD_cons_zero, List.getD_cons_succ, DC.bb_b, DC.ii_i, DC.ss_s, DC.ll_sl, bytesRow_eq, brows_app', brows_len, List.length_append, List.length_cons, List.length_nil, LIM, if_true, if_false, Bool.false_eq_true, Out.bindR_ret, Out.andThen_norm, Out.andThenB_ret, Out.andThenB_norm, Out.andThenB_ex, if_pos, Int.toNat_natCast, List.length_map, true_and, and_self, decide_true, b64, b58, b44, b46, b36, b40, b41, b91, b93, b123, b125, b32, b10, bc44, bc58, bc32, bc46, bc123, bc64, bc10, bc125, bc40, bc41, bc91, bc93, bc36, List.length_replicate, hw, d, wi]
  case fin =>
    refine Loop_ex ?_
    rw [Nat.zero_add]
    have d : decide (((2 * n : Nat) : Int) < ((2 * n : Nat) : Int)) = false := decide_eq_false (by omega)
    simp only [E_spec_l11BlanksL1, List.getD_cons_zero, List.getD_cons_succ, DC.bb_b, DC.ii_i, DC.ss_s, DC.ll_sl, hw, d, Bool.false_eq_true, if_false, blanks]
  simp only [Int.natCast_zero, List.replicate_zero, List.append_nil] at h
  rw [eq_spec_l11Blanks]
  simp only [E_spec_l11Blanks, List.getD_cons_zero, List.getD_cons_succ, DC.bb_b, DC.ii_i, DC.ss_s, DC.ll_sl, h, Out.andThenB_ex, if_true]
theorem spec_block (l : List TSel) (n : Nat) (hn : n ≤ 40) (ih : ∀ out : List UInt8, out.length + (selsT l (n + 1)).length < 1073741824 → r_spec_l11Say [.sl (brows out), .sl (l.map TSel.enc), .i ((n + 1 : Nat) : Int)] = .ret [.sl (brows (out ++ selsT l (n + 1)))])
    (out : List UInt8) (ho : out.length + (blockT n (selsT l (n + 1))).length < 1073741824) : r_spec_l11Block [.sl (brows out), .sl (l.map TSel.enc), .i (n : Int)] = .ret [.sl (brows (out ++ blockT n (selsT l (n + 1))))] := by
  have hw : IntKind.i64.wrap ((n : Int) + 1) = ((n + 1 : Nat) : Int) := by rw [wrap64 (by omega) (by omega)]; omega
  have hb := spec_l11Blanks n (by omega)
  unfold blockT at ho ⊢
  simp only [List.length_append, List.length_cons, List.length_nil, blanks_len] at ho
  rw [eq_spec_l11Block]
  simp (disch := first | omega | (simp only [List.length_append, List.length_cons, List.length_nil, brows_len, LIM, blanks_len] <;> omega) | fail) only [E_spec_l11Block, List.getD_cons_zero, List.getD_cons_succ, DC.bb_b, DC.ii_i, DC.ss_s, DC.ll_sl, bytesRow_eq, brows_app', brows_len, List.length_append, List.length_cons, List.length_nil, LIM, if_true, if_false, Bool.false_eq_true, Out.bindR_ret, Out.andThen_norm, Out.andThenB_ret, Out.andThenB_norm, Out.andThenB_ex, if_pos, Int.toNat_natCast, List.length_map, true_and, and_self, decide_true, b64, b58, b44, b46, b36, b40, b41, b91, b93, b123, b125, b32, b10, bc44, bc58, bc32, bc46, bc123, bc64, bc10, bc125, bc40, bc41, bc91, bc93, bc36, blanks_len, hw, ih, hb]
  simp
theorem say_list (l : List TSel) (n : Nat) (hn : n ≤ 40) (hw : DC.wt (.sl (l.map TSel.enc)) ≤ 1048576) (hA : ∀ x ∈ l, argsOk x.args = true) (hD : ∀ x ∈ l, dirsOk x.dirs = true)
    (ih : ∀ x ∈ l, ∀ out : List UInt8, out.length + (selsT x.sels (n + 1)).length < 1073741824 → r_spec_l11Say [.sl (brows out), .sl (x.sels.map TSel.enc), .i ((n + 1 : Nat) : Int)] = .ret [.sl (brows (out ++ selsT x.sels (n + 1)))])
    (out : List UInt8) (ho : out.length + (selsT l n).length < 1073741824) : r_spec_l11Say [.sl (brows out), .sl (l.map TSel.enc), .i (n : Int)] = .ret [.sl (brows (out ++ selsT l n))] := by
  obtain ⟨hl, hx⟩ := sl_wt hw
  have hb := spec_l11Blanks n (by omega)
  have hlp := jt_loop (o := []) (sep := []) (f := fun s => selT s n) (l := l) (st := fun i cur => [.sl (brows cur), .sl (l.map TSel.enc), .i (n : Int), .i (i : Int)]) (F := E_spec_l11SayL1) (res := .ex 0 [.sl (brows (out ++ selsT l n))]) out
    (fun i hi cur hc => ?step) ?fin (Out.esc_ex _ _)
  case fin => simp [E_spec_l11SayL1, selsT]
  case step =>
    have hm := List.getElem_mem hi
    have hwv := hx _ hm
    rw [sel_wsum] at hwv
    have h1 := spec_l10Say l[i].args (by omega) (hA _ hm)
    have h2 := spec_l10SayDirs l[i].dirs (by omega) (hD _ hm)
    have h3 := spec_block l[i].sels n hn (ih _ hm)
    have c2 : 0 ≤ (i : Int) ∧ (i : Int) < (l.length : Int) := by omega
    have d : decide ((i : Int) < (l.length : Int)) = true := decide_eq_true (by omega)
    have wi := wrap_succ hi (show l.length ≤ 9223372036854775807 by omega)
    rw [ite_self, List.nil_append] at hc ⊢
    change cur.length + (selT l[i] n).length ≤ out.length + (selsT l n).length at hc
    try dsimp only
    rw [selT_eq] at hc ⊢
    unfold headT at hc ⊢
    have hs : decide (((l[i].sels.map TSel.enc).length : Int) > 0) = !l[i].sels.isEmpty := by cases l[i].sels with | nil => rfl | cons a l => exact decide_eq_true (by simp)
    simp only [List.length_map] at hs
    simp only [List.length_append, List.length_cons, List.length_nil, blanks_len] at hc
    generalize hE : l[i].sels.isEmpty = e at *
    by_cases k1 : l[i].kind = 1
    · have c1 : (l[i].kind == 1) = true := beq_iff_eq.2 k1
      rw [if_pos k1] at hc ⊢
      by_cases ka : l[i].alias = []
      · have ca : (l[i].alias == ([] : List UInt8)) = true := beq_iff_eq.2 ka
        rw [if_pos ka] at hc ⊢
        cases e
        · simp only [Bool.false_eq_true, if_false, List.length_nil, List.length_append] at hc
          simp (disch := first | omega | (simp only [List.length_append, List.length_cons, List.length_nil, brows_len, LIM, blanks_len] <;> omega) | fail) only [E_spec_l11SayL1, List.getD_cons_zero, List.getD_cons_succ, DC.bb_b, DC.ii_i, DC.ss_s, DC.ll_sl, bytesRow_eq, brows_app', brows_len, List.length_append, List.length_cons, List.length_nil, LIM, if_true, if_false, Bool.false_eq_true, Out.bindR_ret, Out.andThen_norm, Out.andThenB_ret, Out.andThenB_norm, Out.andThenB_ex, if_pos, Int.toNat_natCast, List.length_map, true_and, and_self, decide_true, b64, b58, b44, b46, b36, b40, b41, b91, b93, b123, b125, b32, b10, bc44, bc58, bc32, bc46, bc123, bc64, bc10, bc125, bc40, bc41, bc91, bc93, bc36, blanks_len, map_getD hi, TSel.enc_eq, d, c2, c1, ca, hs, hb, h1, h2, h3, wi, Bool.not_true, Bool.not_false]
          simp
        · simp only [if_true, List.length_nil, List.length_append] at hc
          simp (disch := first | omega | (simp only [List.length_append, List.length_cons, List.length_nil, brows_len, LIM, blanks_len] <;> omega) | fail) only [E_spec_l11SayL1, List.getD_cons_zero, List.getD_cons_succ, DC.bb_b, DC.ii_i, DC.ss_s, DC.ll_sl, bytesRow_eq, brows_app', brows_len, List.length_append, List.length_cons, List.length_nil, LIM, if_true, if_false, Bool.false_eq_true, Out.bindR_ret, Out.andThen_norm, Out.andThenB_ret, Out.andThenB_norm, Out.andThenB_ex, if_pos, Int.toNat_natCast, List.length_map, true_and, and_self, decide_true, b64, b58, b44, b46, b36, b40, b41, b91, b93, b123, b125, b32, b10, bc44, bc58, bc32, bc46, bc123, bc64, bc10, bc125, bc40, bc41, bc91, bc93, bc36, blanks_len, map_getD hi, TSel.enc_eq, d, c2, c1, ca, hs, hb, h1, h2, h3, wi, Bool.not_true, Bool.not_false]
          simp
      · have ca : (l[i].alias == ([] : List UInt8)) = false := beq_eq_false_iff_ne.2 ka
        rw [if_neg ka] at hc ⊢
        cases e
        · simp only [Bool.false_eq_true, if_false, List.length_nil, List.length_append, List.length_cons] at hc
          simp (disch := first | omega | (simp only [List.length_append, List.length_cons, List.length_nil, brows_len, LIM, blanks_len] <;> omega) | fail) only [E_spec_l11SayL1, List.getD_cons_zero, List.getD_cons_succ, DC.bb_b, DC.ii_i, DC.ss_s, DC.ll_sl, bytesRow_eq, brows_app', brows_len, List.length_append, List.length_cons, List.length_nil, LIM, if_true, if_false, Bool.false_eq_true, Out.bindR_ret, Out.andThen_norm, Out.andThenB_ret, Out.andThenB_norm, Out.andThenB_ex, if_pos, Int.toNat_natCast, List.length_map, true_and, and_self, decide_true, b64, b58, b44, b46, b36, b40, b41, b91, b93, b123, b125, b32, b10, bc44, bc58, bc32, bc46, bc123, bc64, bc10, bc125, bc40, bc41, bc91, bc93, bc36, blanks_len, map_getD hi, TSel.enc_eq, d, c2, c1, ca, hs, hb, h1, h2, h3, wi, Bool.not_true, Bool.not_false]
          simp
        · simp only [if_true, List.length_nil, List.length_append, List.length_cons] at hc
          simp (disch := first | omega | (simp only [List.length_append, List.length_cons, List.length_nil, brows_len, LIM, blanks_len] <;> omega) | fail) only [E_spec_l11SayL1, List.getD_cons_zero, List.getD_cons_succ, DC.bb_b, DC.ii_i, DC.ss_s, DC.ll_sl, bytesRow_eq, brows_app', brows_len, List.length_append, List.length_cons, List.length_nil, LIM, if_true, if_false, Bool.false_eq_true, Out.bindR_ret, Out.andThen_norm, Out.andThenB_ret, Out.andThenB_norm, Out.andThenB_ex, if_pos, Int.toNat_natCast, List.length_map, true_and, and_self, decide_true, b64, b58, b44, b46, b36, b40, b41, b91, b93, b123, b125, b32, b10, bc44, bc58, bc32, bc46, bc123, bc64, bc10, bc125, bc40, bc41, bc91, bc93, bc36, blanks_len, map_getD hi, TSel.enc_eq, d, c2, c1, ca, hs, hb, h1, h2, h3, wi, Bool.not_true, Bool.not_false]
          simp
    have c1 : (l[i].kind == 1) = false := beq_eq_false_iff_ne.2 k1
    rw [if_neg k1] at hc ⊢
    by_cases k2 : l[i].kind = 2
    · have ck : (l[i].kind == 2) = true := beq_iff_eq.2 k2
      rw [if_pos k2] at hc ⊢
      cases e
      · simp only [Bool.false_eq_true, if_false, List.length_nil, List.length_append, List.length_cons] at hc
        simp (disch := first | omega | (simp only [List.length_append, List.length_cons, List.length_nil, brows_len, LIM, blanks_len] <;> omega) | fail) only [E_spec_l11SayL1, List.getD_cons_zero, List.getD_cons_succ, DC.bb_b, DC.ii_i, DC.ss_s, DC.ll_sl, bytesRow_eq, brows_app', brows_len, List.length_append, List.length_cons, List.length_nil, LIM, if_true, if_false, Bool.false_eq_true, Out.bindR_ret, Out.andThen_norm, Out.andThenB_ret, Out.andThenB_norm, Out.andThenB_ex, if_pos, Int.toNat_natCast, List.length_map, true_and, and_self, decide_true, b64, b58, b44, b46, b36, b40, b41, b91, b93, b123, b125, b32, b10, bc44, bc58, bc32, bc46, bc123, bc64, bc10, bc125, bc40, bc41, bc91, bc93, bc36, blanks_len, map_getD hi, TSel.enc_eq, d, c2, c1, ck, hs, hb, h1, h2, h3, wi, Bool.not_true, Bool.not_false]
        simp
      · simp only [if_true, List.length_nil, List.length_append, List.length_cons] at hc
        simp (disch := first | omega | (simp only [List.length_append, List.length_cons, List.length_nil, brows_len, LIM, blanks_len] <;> omega) | fail) only [E_spec_l11SayL1, List.getD_cons_zero, List.getD_cons_succ, DC.bb_b, DC.ii_i, DC.ss_s, DC.ll_sl, bytesRow_eq, brows_app', brows_len, List.length_append, List.length_cons, List.length_nil, LIM, if_true, if_false, Bool.false_eq_true, Out.bindR_ret, Out.andThen_norm, Out.andThenB_ret, Out.andThenB_norm, Out.andThenB_ex, if_pos, Int.toNat_natCast, List.length_map, true_and, and_self, decide_true, b64, b58, b44, b46, b36, b40, b41, b91, b93, b123, b125, b32, b10, bc44, bc58, bc32, bc46, bc123, bc64, bc10, bc125, bc40, bc41, bc91, bc93, bc36, blanks_len, map_getD hi, TSel.enc_eq, d, c2, c1, ck, hs, hb, h1, h2, h3, wi, Bool.not_true, Bool.not_false]
        simp
    have ck : (l[i].kind == 2) = false := beq_eq_false_iff_ne.2 k2
    rw [if_neg k2] at hc ⊢
    by_cases ka : l[i].on' = []
    · have ca : (l[i].on' == ([] : List UInt8)) = true := beq_iff_eq.2 ka
      rw [if_pos ka] at hc ⊢
      cases e
      · simp only [Bool.false_eq_true, if_false, List.length_nil, List.length_append, List.length_cons] at hc
        simp (disch := first | omega | (simp only [List.length_append, List.length_cons, List.length_nil, brows_len, LIM, blanks_len] <;> omega) | fail) only [E_spec_l11SayL1, List.getD_cons_zero, List.getD_cons_succ, DC.bb_b, DC.ii_i, DC.ss_s, DC.ll_sl, bytesRow_eq, brows_app', brows_len, List.length_append, List.length_cons, List.length_nil, LIM, if_true, if_false, Bool.false_eq_true, Out.bindR_ret, Out.andThen_norm, Out.andThenB_ret, Out.andThenB_norm, Out.andThenB_ex, if_pos, Int.toNat_natCast, List.length_map, true_and, and_self, decide_true, b64, b58, b44, b46, b36, b40, b41, b91, b93, b123, b125, b32, b10, bc44, bc58, bc32, bc46, bc123, bc64, bc10, bc125, bc40, bc41, bc91, bc93, bc36, blanks_len, map_getD hi, TSel.enc_eq, d, c2, c1, ck, ca, hs, hb, h1, h2, h3, wi, Bool.not_true, Bool.not_false]
        simp
      · simp only [if_true, List.length_nil, List.length_append, List.length_cons] at hc
        simp (disch := first | omega | (simp only [List.length_append, List.length_cons, List.length_nil, brows_len, LIM, blanks_len] <;> omega) | fail) only [E_spec_l11SayL1, List.getD_cons_zero, List.getD_cons_succ, DC.bb_b, DC.ii_i, DC.ss_s, DC.ll_sl, bytesRow_eq, brows_app', brows_len, List.length_append, List.length_cons, List.length_nil, LIM, if_true, if_false, Bool.false_eq_true, Out.bindR_ret, Out.andThen_norm, Out.andThenB_ret, Out.andThenB_norm, Out.andThenB_ex, if_pos, Int.toNat_natCast, List.length_map, true_and, and_self, decide_true, b64, b58, b44, b46, b36, b40, b41, b91, b93, b123, b125, b32, b10, bc44, bc58, bc32, bc46, bc123, bc64, bc10, bc125, bc40, bc41, bc91, bc93, bc36, blanks_len, map_getD hi, TSel.enc_eq, d, c2, c1, ck, ca, hs, hb, h1, h2, h3, wi, Bool.not_true, Bool.not_false]
        simp
    · have ca : (l[i].on' == ([] : List UInt8)) = false := beq_eq_false_iff_ne.2 ka
      rw [if_neg ka] at hc ⊢
      cases e
      · simp only [Bool.false_eq_true, if_false, List.length_nil, List.length_append, List.length_cons] at hc
        simp (disch := first | omega | (simp only [List.length_append, List.length_cons, List.length_nil, brows_len, LIM, blanks_len] <;> omega) | fail) only [E_spec_l11SayL1, List.getD_cons_zero, List.getD_cons_succ, DC.bb_b, DC.ii_i, DC.ss_s, DC.ll_sl, bytesRow_eq, brows_app', brows_len, List.length_append, List.length_cons, List.length_nil, LIM, if_true, if_false, Bool.false_eq_true, Out.bindR_ret, Out.andThen_norm, Out.andThenB_ret, Out.andThenB_norm, Out.andThenB_ex, if_pos, Int.toNat_natCast, List.length_map, true_and, and_self, decide_true, b64, b58, b44, b46, b36, b40, b41, b91, b93, b123, b125, b32, b10, bc44, bc58, bc32, bc46, bc123, bc64, bc10, bc125, bc40, bc41, bc91, bc93, bc36, blanks_len, map_getD hi, TSel.enc_eq, d, c2, c1, ck, ca, hs, hb, h1, h2, h3, wi, Bool.not_true, Bool.not_false]
        simp
      · simp only [if_true, List.length_nil, List.length_append, List.length_cons] at hc
        simp (disch := first | omega | (simp only [List.length_append, List.length_cons, List.length_nil, brows_len, LIM, blanks_len] <;> omega) | fail) only [E_spec_l11SayL1, List.getD_cons_zero, List.getD_cons_succ, DC.bb_b, DC.ii_i, DC.ss_s, DC.ll_sl, bytesRow_eq, brows_app', brows_len, List.length_append, List.length_cons, List.length_nil, LIM, if_true, if_false, Bool.false_eq_true, Out.bindR_ret, Out.andThen_norm, Out.andThenB_ret, Out.andThenB_norm, Out.andThenB_ex, if_pos, Int.toNat_natCast, List.length_map, true_and, and_self, decide_true, b64, b58, b44, b46, b36, b40, b41, b91, b93, b123, b125, b32, b10, bc44, bc58, bc32, bc46, bc123, bc64, bc10, bc125, bc40, bc41, bc91, bc93, bc36, blanks_len, map_getD hi, TSel.enc_eq, d, c2, c1, ck, ca, hs, hb, h1, h2, h3, wi, Bool.not_true, Bool.not_false]
        simp
  rw [Int.natCast_zero] at hlp
  rw [eq_spec_l11Say]
  simp only [E_spec_l11Say, List.getD_cons_zero, List.getD_cons_succ, DC.bb_b, DC.ii_i, DC.ss_s, DC.ll_sl, hlp, Out.andThenB_ex, if_true]
theorem spec_l11Say : ∀ (r : Nat) (l : List TSel) (n : Nat), r ≤ 10 → n + r ≤ 40 → DC.wt (.sl (l.map TSel.enc)) ≤ 1048576 → (∀ x ∈ l, selR r x = true) → ∀ out : List UInt8, out.length + (selsT l n).length < 1073741824 →
    r_spec_l11Say [.sl (brows out), .sl (l.map TSel.enc), .i (n : Int)] = .ret [.sl (brows (out ++ selsT l n))]
  | 0, l, n, hr, hn, hw, hok, out, ho => by
    have hx := (sl_wt hw).2
    refine say_list l n (by omega) hw (fun x hm => ?_) (fun x hm => ?_) (fun x hm => ?_) out ho
    all_goals
      obtain ⟨r, h0, _⟩ := sel_facts x (hx x hm) 0 (by omega) (hok x hm)
      omega
  | r + 1, l, n, hr, hn, hw, hok, out, ho => by
    have hx := (sl_wt hw).2
    refine say_list l n (by omega) hw (fun x hm => ?_) (fun x hm => ?_) (fun x hm => ?_) out ho
    · obtain ⟨_, _, _, h1, _⟩ := sel_facts x (hx x hm) (r + 1) (by omega) (hok x hm)
      exact h1
    · obtain ⟨_, _, _, _, h1, _⟩ := sel_facts x (hx x hm) (r + 1) (by omega) (hok x hm)
      exact h1
    · obtain ⟨r', h0, _, _, _, h1⟩ := sel_facts x (hx x hm) (r + 1) (by omega) (hok x hm)
      have : r' = r := by omega
      subst this
      have hwx := hx x hm
      rw [sel_wsum] at hwx
      exact spec_l11Say r' x.sels (n + 1) (by omega) (by omega) (by omega) h1
theorem cf_impl_SelsText_1 (ok : TSel → Bool) (l : List TSel) (hl : l.length ≤ 1048576) (hc : ∀ x ∈ l, r_impl_SelsText_1 [.i x.kind, .s x.alias, .s x.name, .s x.on', .sl (x.args.map TArg.enc), .sl (x.dirs.map TDir.enc), .sl (x.sels.map TSel.enc)] = .ret [.b (!ok x)]) : r_slices_ContainsFunc_impl_Sel__impl_SelsText_1 [.sl (l.map TSel.enc)] = .ret [.b (!(l.all ok))] := by
  rw [eq_slices_ContainsFunc_impl_Sel__impl_SelsText_1]
  simp only [E_slices_ContainsFunc_impl_Sel__impl_SelsText_1, List.getD_cons_zero, DC.ll_sl]
  rw [eq_slices_IndexFunc_impl_Sel__impl_SelsText_1]
  simp only [E_slices_IndexFunc_impl_Sel__impl_SelsText_1, List.getD_cons_zero, DC.ll_sl, List.length_map]
  rw [show (0 : Int) = ((0 : Nat) : Int) from rfl, Loop_find0 (l := l) (st := fun i => [.sl (l.map TSel.enc), .i (l.length : Int), .i (i : Int)]) (p := fun n => !ok n) (stop := fun i _ => .ret [.i (i : Int)]) (fin := .ex 0 []) (fun i hi => ?step) (fun _ _ => Out.esc_ret _) ?fin (Out.esc_ex _ _), goF_idx]
  · rw [List.not_all_eq_any_not]
    cases hf : l.findIdx? fun n => !ok n with
    | none =>
      have : (l.any fun n => !ok n) = false := by
        rw [List.any_eq_false]
        intro x hx
        have := List.findIdx?_eq_none_iff.1 hf x hx
        simpa using this
      rw [this]
      simp
    | some j =>
      obtain ⟨hj, h1, h2⟩ := List.findIdx?_eq_some_iff_getElem.1 hf
      have : (l.any fun n => !ok n) = true := List.any_eq_true.2 ⟨l[j], List.getElem_mem hj, h1⟩
      rw [this]
      simp [hj]
  case step =>
    have c2 : 0 ≤ (i : Int) ∧ (i : Int) < (l.length : Int) := by omega
    have d : decide ((i : Int) < (l.length : Int)) = true := decide_eq_true (by omega)
    have he : r_impl_SelsText_1 [.i l[i].kind, .s l[i].alias, .s l[i].name, .s l[i].on', .sl (l[i].args.map TArg.enc), .sl (l[i].dirs.map TDir.enc), .sl (l[i].sels.map TSel.enc)] = .ret [.b (!ok l[i])] := hc _ (List.getElem_mem hi)
    simp only [E_slices_IndexFunc_impl_Sel__impl_SelsText_1L1, List.getD_cons_zero, List.getD_cons_succ, DC.bb_b, DC.ii_i, DC.ss_s, DC.ll_sl, Int.toNat_natCast, List.length_map, map_getD hi, TSel.enc_eq, d, c2, he, Out.bindR_ret, true_and, and_self, if_true]
    cases ok l[i] <;> simp [wrap_succ hi (show l.length ≤ 9223372036854775807 by omega)]
  case fin => simp [E_slices_IndexFunc_impl_Sel__impl_SelsText_1L1]
theorem repeat_blanks : ∀ n : Nat, Lib.repeatL [32, 32] n = blanks n
  | 0 => rfl
  | n + 1 => by
    rw [Lib.repeatL, repeat_blanks n, blanks, blanks, show 2 * (n + 1) = 2 * n + 1 + 1 by omega, List.replicate_succ, List.replicate_succ]
    rfl
theorem Repeat_ok (n : Nat) (h : n ≤ 1000) : r_strings_Repeat [.s [32, 32], .i (n : Int)] = .ret [.s (blanks n)] := by
  rw [eq_strings_Repeat]
  have : E_strings_Repeat [.s [32, 32], .i (n : Int)] = (match primH [.s, .i .i64] [.s] qRepeat h_strings_Repeat [.s [32, 32], .i (n : Int)] with | some r => Out.ret r | none => .fail) := rfl
  rw [this]
  have hq : qRepeat [.s [32, 32], .i (n : Int)] = some [.s (blanks n)] := by
    simp only [qRepeat]
    rw [if_pos ⟨by omega, by omega, by simp; omega⟩, Int.toNat_natCast, repeat_blanks]
  have : primH [.s, .i .i64] [.s] qRepeat h_strings_Repeat [.s [32, 32], .i (n : Int)] = (match qRepeat [.s [32, 32], .i (n : Int)] with | some r => if okDs [.s] r 0 = true then some r else none | none => none) := rfl
  rw [this, hq]
  rfl
theorem impl_selHead (s : TSel) (hw : wtL s.enc ≤ 1048576) (hn : selNm s = true) (hA : argsOk s.args = true) (hD : dirsOk s.dirs = true) :
    r_impl_selHead [.i s.kind, .s s.alias, .s s.name, .s s.on', .sl (s.args.map TArg.enc), .sl (s.dirs.map TDir.enc), .sl (s.sels.map TSel.enc)] = .ret [.s (headT s)] := by
  have hb := head_len s
  have hb2 : (headT s).length ≤ 8388616 := by omega
  clear hb
  rw [sel_wsum] at hw
  have h1 := impl_ArgsText s.args (by omega) hA
  have h2 := impl_DirsText s.dirs (by omega) hD
  rw [eq_impl_selHead]
  unfold headT at hb2 ⊢
  by_cases k1 : s.kind = 1
  · have c1 : (s.kind == 1) = true := beq_iff_eq.2 k1
    rw [if_pos k1] at hb2 ⊢
    by_cases ka : s.alias = []
    · have ca : (s.alias == ([] : List UInt8)) = true := beq_iff_eq.2 ka
      rw [if_pos ka] at hb2 ⊢
      simp only [List.length_append, List.length_nil] at hb2
      simp (disch := first | omega | (simp only [List.length_append, List.length_cons, List.length_nil, brows_len, LIM, blanks_len] <;> omega) | fail) only [E_impl_selHead, List.getD_cons_zero, List.getD_cons_succ, DC.bb_b, DC.ii_i, DC.ss_s, DC.ll_sl, bytesRow_eq, brows_app', brows_len, List.length_append, List.length_cons, List.length_nil, LIM, if_true, if_false, Bool.false_eq_true, Out.bindR_ret, Out.andThen_norm, Out.andThenB_ret, Out.andThenB_norm, Out.andThenB_ex, if_pos, Int.toNat_natCast, List.length_map, true_and, and_self, decide_true, b64, b58, b44, b46, b36, b40, b41, b91, b93, b123, b125, b32, b10, bc44, bc58, bc32, bc46, bc123, bc64, bc10, bc125, bc40, bc41, bc91, bc93, bc36, c1, ca, h1, h2, Bool.not_true, Bool.not_false]
      simp
    · have ca : (s.alias == ([] : List UInt8)) = false := beq_eq_false_iff_ne.2 ka
      rw [if_neg ka] at hb2 ⊢
      simp only [List.length_append, List.length_nil, List.length_cons] at hb2
      simp (disch := first | omega | (simp only [List.length_append, List.length_cons, List.length_nil, brows_len, LIM, blanks_len] <;> omega) | fail) only [E_impl_selHead, List.getD_cons_zero, List.getD_cons_succ, DC.bb_b, DC.ii_i, DC.ss_s, DC.ll_sl, bytesRow_eq, brows_app', brows_len, List.length_append, List.length_cons, List.length_nil, LIM, if_true, if_false, Bool.false_eq_true, Out.bindR_ret, Out.andThen_norm, Out.andThenB_ret, Out.andThenB_norm, Out.andThenB_ex, if_pos, Int.toNat_natCast, List.length_map, true_and, and_self, decide_true, b64, b58, b44, b46, b36, b40, b41, b91, b93, b123, b125, b32, b10, bc44, bc58, bc32, bc46, bc123, bc64, bc10, bc125, bc40, bc41, bc91, bc93, bc36, c1, ca, h1, h2, Bool.not_true, Bool.not_false]
      simp
  have c1 : (s.kind == 1) = false := beq_eq_false_iff_ne.2 k1
  rw [if_neg k1] at hb2 ⊢
  have hargs : s.args = [] := by
    unfold selNm at hn
    rw [c1] at hn
    simp only [Bool.false_and, Bool.false_or, Bool.or_eq_true, Bool.and_eq_true, List.isEmpty_iff] at hn
    rcases hn with h | h
    · exact h.2.2.2.2.2.1
    · exact h.2.2.2.2.1
  rw [hargs, argsT_nil, List.nil_append] at hb2 ⊢
  by_cases k2 : s.kind = 2
  · have ck : (s.kind == 2) = true := beq_iff_eq.2 k2
    rw [if_pos k2] at hb2 ⊢
    simp only [List.length_append, List.length_nil, List.length_cons] at hb2
    simp (disch := first | omega | (simp only [List.length_append, List.length_cons, List.length_nil, brows_len, LIM, blanks_len] <;> omega) | fail) only [E_impl_selHead, List.getD_cons_zero, List.getD_cons_succ, DC.bb_b, DC.ii_i, DC.ss_s, DC.ll_sl, bytesRow_eq, brows_app', brows_len, List.length_append, List.length_cons, List.length_nil, LIM, if_true, if_false, Bool.false_eq_true, Out.bindR_ret, Out.andThen_norm, Out.andThenB_ret, Out.andThenB_norm, Out.andThenB_ex, if_pos, Int.toNat_natCast, List.length_map, true_and, and_self, decide_true, b64, b58, b44, b46, b36, b40, b41, b91, b93, b123, b125, b32, b10, bc44, bc58, bc32, bc46, bc123, bc64, bc10, bc125, bc40, bc41, bc91, bc93, bc36, c1, ck, h2, Bool.not_true, Bool.not_false]
  have ck : (s.kind == 2) = false := beq_eq_false_iff_ne.2 k2
  rw [if_neg k2] at hb2 ⊢
  by_cases ka : s.on' = []
  · have ca : (s.on' == ([] : List UInt8)) = true := beq_iff_eq.2 ka
    rw [if_pos ka] at hb2 ⊢
    simp only [List.length_append, List.length_nil, List.length_cons] at hb2
    simp (disch := first | omega | (simp only [List.length_append, List.length_cons, List.length_nil, brows_len, LIM, blanks_len] <;> omega) | fail) only [E_impl_selHead, List.getD_cons_zero, List.getD_cons_succ, DC.bb_b, DC.ii_i, DC.ss_s, DC.ll_sl, bytesRow_eq, brows_app', brows_len, List.length_append, List.length_cons, List.length_nil, LIM, if_true, if_false, Bool.false_eq_true, Out.bindR_ret, Out.andThen_norm, Out.andThenB_ret, Out.andThenB_norm, Out.andThenB_ex, if_pos, Int.toNat_natCast, List.length_map, true_and, and_self, decide_true, b64, b58, b44, b46, b36, b40, b41, b91, b93, b123, b125, b32, b10, bc44, bc58, bc32, bc46, bc123, bc64, bc10, bc125, bc40, bc41, bc91, bc93, bc36, c1, ck, ca, h2, Bool.not_true, Bool.not_false]
  · have ca : (s.on' == ([] : List UInt8)) = false := beq_eq_false_iff_ne.2 ka
    rw [if_neg ka] at hb2 ⊢
    simp only [List.length_append, List.length_nil, List.length_cons] at hb2
    simp (disch := first | omega | (simp only [List.length_append, List.length_cons, List.length_nil, brows_len, LIM, blanks_len] <;> omega) | fail) only [E_impl_selHead, List.getD_cons_zero, List.getD_cons_succ, DC.bb_b, DC.ii_i, DC.ss_s, DC.ll_sl, bytesRow_eq, brows_app', brows_len, List.length_append, List.length_cons, List.length_nil, LIM, if_true, if_false, Bool.false_eq_true, Out.bindR_ret, Out.andThen_norm, Out.andThenB_ret, Out.andThenB_norm, Out.andThenB_ex, if_pos, Int.toNat_natCast, List.length_map, true_and, and_self, decide_true, b64, b58, b44, b46, b36, b40, b41, b91, b93, b123, b125, b32, b10, bc44, bc58, bc32, bc46, bc123, bc64, bc10, bc125, bc40, bc41, bc91, bc93, bc36, c1, ck, ca, h2, Bool.not_true, Bool.not_false]
theorem text_list (l : List TSel) (n : Nat) (hn : n ≤ 40) (hw : DC.wt (.sl (l.map TSel.enc)) ≤ 1048576) (hN : ∀ x ∈ l, selNm x = true) (hA : ∀ x ∈ l, argsOk x.args = true) (hD : ∀ x ∈ l, dirsOk x.dirs = true)
    (ih : ∀ x ∈ l, r_impl_selsText [.sl (x.sels.map TSel.enc), .i ((n + 1 : Nat) : Int)] = .ret [.s (selsT x.sels (n + 1))])
    (ho : (selsT l n).length < 1073741824) : r_impl_selsText [.sl (l.map TSel.enc), .i (n : Int)] = .ret [.s (selsT l n)] := by
  obtain ⟨hl, hx⟩ := sl_wt hw
  have hlp := jt_loop (o := []) (sep := []) (f := fun s => selT s n) (l := l) (st := fun i cur => [.i (n : Int), .s (blanks n), .s cur, .sl (l.map TSel.enc), .i (l.length : Int), .i (i : Int)]) (F := E_impl_selsTextL1) (res := .ex 0 [.s ([] ++ selsT l n)]) []
    (fun i hi cur hc => ?step) ?fin (Out.esc_ex _ _)
  case fin => simp [E_impl_selsTextL1, selsT]
  case step =>
    have hm := List.getElem_mem hi
    have hwv := hx _ hm
    have h1 := impl_selHead l[i] hwv (hN _ hm) (hA _ hm) (hD _ hm)
    have h3 := ih _ hm
    have c2 : 0 ≤ (i : Int) ∧ (i : Int) < (l.length : Int) := by omega
    have d : decide ((i : Int) < (l.length : Int)) = true := decide_eq_true (by omega)
    have wi := wrap_succ hi (show l.length ≤ 9223372036854775807 by omega)
    have hwn : IntKind.i64.wrap ((n : Int) + 1) = ((n + 1 : Nat) : Int) := by rw [wrap64 (by omega) (by omega)]; omega
    rw [ite_self, List.nil_append] at hc ⊢
    change cur.length + (selT l[i] n).length ≤ ([] : List UInt8).length + (selsT l n).length at hc
    try dsimp only
    rw [selT_eq] at hc ⊢
    have hs : decide (((l[i].sels.map TSel.enc).length : Int) > 0) = !l[i].sels.isEmpty := by cases l[i].sels with | nil => rfl | cons a l => exact decide_eq_true (by simp)
    simp only [List.length_map] at hs
    simp only [List.length_append, List.length_cons, List.length_nil, blanks_len] at hc
    generalize hE : l[i].sels.isEmpty = e at *
    unfold blockT at hc ⊢
    cases e
    · simp only [Bool.false_eq_true, if_false, List.length_nil, List.length_append, List.length_cons, blanks_len] at hc
      simp (disch := first | omega | (simp only [List.length_append, List.length_cons, List.length_nil, brows_len, LIM, blanks_len] <;> omega) | fail) only [E_impl_selsTextL1, List.getD_cons_zero, List.getD_cons_succ, DC.bb_b, DC.ii_i, DC.ss_s, DC.ll_sl, bytesRow_eq, brows_app', brows_len, List.length_append, List.length_cons, List.length_nil, LIM, if_true, if_false, Bool.false_eq_true, Out.bindR_ret, Out.andThen_norm, Out.andThenB_ret, Out.andThenB_norm, Out.andThenB_ex, if_pos, Int.toNat_natCast, List.length_map, true_and, and_self, decide_true, b64, b58, b44, b46, b36, b40, b41, b91, b93, b123, b125, b32, b10, bc44, bc58, bc32, bc46, bc123, bc64, bc10, bc125, bc40, bc41, bc91, bc93, bc36, blanks_len, map_getD hi, TSel.enc_eq, d, c2, hs, h1, h3, hwn, wi, Bool.not_true, Bool.not_false]
      simp
    · simp only [if_true, List.length_nil, List.length_append, List.length_cons] at hc
      simp (disch := first | omega | (simp only [List.length_append, List.length_cons, List.length_nil, brows_len, LIM, blanks_len] <;> omega) | fail) only [E_impl_selsTextL1, List.getD_cons_zero, List.getD_cons_succ, DC.bb_b, DC.ii_i, DC.ss_s, DC.ll_sl, bytesRow_eq, brows_app', brows_len, List.length_append, List.length_cons, List.length_nil, LIM, if_true, if_false, Bool.false_eq_true, Out.bindR_ret, Out.andThen_norm, Out.andThenB_ret, Out.andThenB_norm, Out.andThenB_ex, if_pos, Int.toNat_natCast, List.length_map, true_and, and_self, decide_true, b64, b58, b44, b46, b36, b40, b41, b91, b93, b123, b125, b32, b10, bc44, bc58, bc32, bc46, bc123, bc64, bc10, bc125, bc40, bc41, bc91, bc93, bc36, blanks_len, map_getD hi, TSel.enc_eq, d, c2, hs, h1, h3, hwn, wi, Bool.not_true, Bool.not_false]
      simp
  rw [Int.natCast_zero, List.nil_append] at hlp
  rw [eq_impl_selsText]
  simp only [E_impl_selsText, List.getD_cons_zero, List.getD_cons_succ, DC.bb_b, DC.ii_i, DC.ss_s, DC.ll_sl, Repeat_ok n (by omega), Out.bindR_ret, List.length_map, hlp, Out.andThenB_ex, if_true]
theorem sels_len (l : List TSel) (r n : Nat) (hd : ∀ x ∈ l, depthLe r x) (hn : n + r ≤ 40) : (selsT l n).length ≤ 200 * DC.wt (.sl (l.map TSel.enc)) := flat_len l fun x hx => selT_len r x n (hd x hx) hn
theorem impl_selsText : ∀ (r : Nat) (l : List TSel) (n : Nat), r ≤ 10 → n + r ≤ 40 → DC.wt (.sl (l.map TSel.enc)) ≤ 1048576 → (∀ x ∈ l, selR r x = true) → r_impl_selsText [.sl (l.map TSel.enc), .i (n : Int)] = .ret [.s (selsT l n)]
  | 0, l, n, hr, hn, hw, hok => by
    have hx := (sl_wt hw).2
    have hb := sels_len l 0 n (fun x hm => sel_depth 0 x (hx x hm) (by omega) (hok x hm)) (by omega)
    refine text_list l n (by omega) hw (fun x hm => ?_) (fun x hm => ?_) (fun x hm => ?_) (fun x hm => ?_) (by omega)
    all_goals
      obtain ⟨r, h0, _⟩ := sel_facts x (hx x hm) 0 (by omega) (hok x hm)
      omega
  | r + 1, l, n, hr, hn, hw, hok => by
    have hx := (sl_wt hw).2
    have hb := sels_len l (r + 1) n (fun x hm => sel_depth (r + 1) x (hx x hm) (by omega) (hok x hm)) (by omega)
    refine text_list l n (by omega) hw (fun x hm => ?_) (fun x hm => ?_) (fun x hm => ?_) (fun x hm => ?_) (by omega)
    · obtain ⟨_, _, h1, _⟩ := sel_facts x (hx x hm) (r + 1) (by omega) (hok x hm)
      exact h1
    · obtain ⟨_, _, _, h1, _⟩ := sel_facts x (hx x hm) (r + 1) (by omega) (hok x hm)
      exact h1
    · obtain ⟨_, _, _, _, h1, _⟩ := sel_facts x (hx x hm) (r + 1) (by omega) (hok x hm)
      exact h1
    · obtain ⟨r', h0, _, _, _, h1⟩ := sel_facts x (hx x hm) (r + 1) (by omega) (hok x hm)
      have : r' = r := by omega
      subst this
      have hwx := hx x hm
      rw [sel_wsum] at hwx
      exact impl_selsText r' x.sels (n + 1) (by omega) (by omega) (by omega) h1
noncomputable def selsText (l : List TSel) (by' : Int) : List UInt8 := if ((decide (0 ≤ by') && decide (by' ≤ 20)) && l.all selOk) = true then selsT l by'.toNat else []
theorem selR_all {l : List TSel} (h : l.all selOk = true) : ∀ x ∈ l, selR ((10 : Nat) : Int) x = true := fun x hx => by
  have := List.all_eq_true.1 h x hx
  simp only [selOk, Bool.and_eq_true] at this
  exact this.1
theorem impl_SelsText (l : List TSel) (b : Int) (hw : DC.wt (.sl (l.map TSel.enc)) ≤ 1048576) : r_impl_SelsText [.sl (l.map TSel.enc), .i b] = .ret [.s (selsText l b)] := by
  obtain ⟨hl, hx⟩ := sl_wt hw
  have hc := cf_impl_SelsText_1 selOk l hl fun x hm => by
    rw [eq_impl_SelsText_1]
    simp only [E_impl_SelsText_1, List.getD_cons_zero, List.getD_cons_succ, DC.bb_b, DC.ii_i, DC.ss_s, DC.ll_sl, impl_SelOk x (hx x hm), Out.bindR_ret]
  rw [eq_impl_SelsText]
  simp only [E_impl_SelsText, List.getD_cons_zero, List.getD_cons_succ, DC.bb_b, DC.ii_i, DC.ss_s, DC.ll_sl, impl_in, hc, Out.bindR_ret]
  unfold selsText
  by_cases hb : 0 ≤ b ∧ b ≤ 20
  · have e : (decide (0 ≤ b) && decide (b ≤ 20)) = true := by simp [hb]
    rw [e]
    simp only [Bool.not_true, Bool.false_eq_true, if_false, Bool.true_and, Out.andThen_norm, List.getD_cons_zero, List.getD_cons_succ, DC.bb_b, DC.ii_i, DC.ss_s, DC.ll_sl]
    cases ho : l.all selOk with
    | false => simp
    | true =>
      have hR := selR_all ho
      have hS := impl_selsText 10 l b.toNat (by omega) (by omega) hw hR
      rw [show ((b.toNat : Nat) : Int) = b by omega] at hS
      simp only [Bool.not_true, Bool.false_eq_true, if_false, if_true, hS, Out.bindR_ret, List.getD_cons_zero, List.getD_cons_succ, DC.bb_b, DC.ii_i, DC.ss_s, DC.ll_sl]
  · have e : (decide (0 ≤ b) && decide (b ≤ 20)) = false := by
      rw [← Bool.decide_and]
      exact decide_eq_false hb
    rw [e]
    simp
noncomputable def fragOk (v : TFrag) : Bool := nameOk v.name && (!(v.name == [111, 110]) && (nameOk v.on' && (dirsOk v.dirs && (selsOk v.sels && !v.sels.isEmpty))))
theorem spec_FragOk (v : TFrag) (hw : wtL v.enc ≤ 1048576) : r_spec_FragOk [.s v.name, .s v.on', .sl (v.dirs.map TDir.enc), .sl (v.sels.map TSel.enc)] = .ret [.b (fragOk v)] := by
  rw [TFrag.enc_eq] at hw
  simp only [wtL] at hw
  have n1 : v.name.length ≤ 1048576 := by simp only [DC.wt] at hw; omega
  have n2 : v.on'.length ≤ 1048576 := by simp only [DC.wt] at hw; omega
  have hD := spec_DirsOk v.dirs (by omega)
  have hS := spec_l11Ok v.sels (by omega)
  have e3 : decide (((v.sels.map TSel.enc).length : Int) > 0) = !v.sels.isEmpty := by cases v.sels with | nil => rfl | cons a l => exact decide_eq_true (by simp)
  rw [eq_spec_FragOk]
  simp only [E_spec_FragOk, List.getD_cons_zero, List.getD_cons_succ, DC.bb_b, DC.ii_i, DC.ss_s, DC.ll_sl, spec_NameOk _ n1, spec_NameOk _ n2, hD, hS, e3, Out.bindR_ret]
  unfold fragOk
  generalize nameOk v.name = p1
  generalize nameOk v.on' = p2
  generalize (v.name == ([111, 110] : List UInt8)) = p3
  generalize dirsOk v.dirs = p4
  generalize selsOk v.sels = p5
  generalize v.sels.isEmpty = p6
  cases p1 <;> cases p3 <;> cases p2 <;> cases p4 <;> cases p6 <;> cases p5 <;> simp
theorem impl_FragOk (v : TFrag) (hw : wtL v.enc ≤ 1048576) : r_impl_FragOk [.s v.name, .s v.on', .sl (v.dirs.map TDir.enc), .sl (v.sels.map TSel.enc)] = .ret [.b (fragOk v)] := by
  rw [TFrag.enc_eq] at hw
  simp only [wtL] at hw
  have n1 : v.name.length ≤ 1048576 := by simp only [DC.wt] at hw; omega
  have n2 : v.on'.length ≤ 1048576 := by simp only [DC.wt] at hw; omega
  have hD := impl_DirsOk v.dirs (by omega)
  have hS := impl_selsOk v.sels (by omega)
  rw [eq_impl_FragOk]
  simp only [E_impl_FragOk, List.getD_cons_zero, List.getD_cons_succ, DC.bb_b, DC.ii_i, DC.ss_s, DC.ll_sl, impl_NameOk _ n1, impl_NameOk _ n2, hD, hS, Out.bindR_ret]
  unfold fragOk
  generalize nameOk v.name = p1
  generalize nameOk v.on' = p2
  generalize (v.name == ([111, 110] : List UInt8)) = p3
  generalize dirsOk v.dirs = p4
  generalize (selsOk v.sels && !v.sels.isEmpty) = p5
  cases p1 <;> cases p3 <;> cases p2 <;> cases p4 <;> cases p5 <;> simp
end Go.Proofs.QV
