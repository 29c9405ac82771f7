/- The law FnExactApart, plainly: what the law's function computes is true. -/
import Derived.Test.YtdobbcpmpgpkcaaG
namespace Go.Proofs.YtdobbcpmpgpkcaaV
open Go
theorem l35 (k : Nat) (x lo hi : Int) : callF cfg (k + 1) 35 h35 [.i x, .i lo, .i hi] = .ret [.b (decide (lo ≤ x) && decide (x ≤ hi))] := by
  rw [eq35]
  by_cases h : lo ≤ x <;> simp [E35, h]
theorem l30 (k : Nat) (x : Int) (s : List UInt8) (y : Int) : callF cfg (k + 1) 30 h30 [.i x, .s s, .i y] = .ret [.b (x == 3 || x == 4)] := by
  rw [eq30]
  by_cases h : x = 3 <;> simp [E30, h]
theorem l29 (k : Nat) (x : Int) (s : List UInt8) (y : Int) : callF cfg (k + 2) 29 h29 [.i x, .s s, .i y] = .ret [.b (x == 2 || (x == 3 || x == 4))] := by
  rw [eq29 (k + 1)]
  by_cases h : x = 2 <;> simp [E29, h, l30]
theorem l28 (k : Nat) (x : Int) (s : List UInt8) (y : Int) : callF cfg (k + 2) 28 h28 [.i x, .s s, .i y] = .ret [.b (x == 2 || (x == 3 || x == 4))] := by
  rw [eq28 (k + 1)]
  have : (decide (2 ≤ x) && decide (x ≤ 4)) = (x == 2 || (x == 3 || x == 4)) := by
    rw [Bool.eq_iff_iff]
    simp
    omega
  simp [E28, l35, this]
theorem l17 (k : Nat) (x : Int) (s : List UInt8) (y l : Int) : callF cfg (k + 1) 17 h17 [.i x, .s s, .i y, .i l] = .ret [.i (if IntKind.i64.wrap (l - (s.length : Int)) < 0 then -1 else IntKind.i64.wrap (l - (s.length : Int)))] := by
  rw [eq17]
  by_cases h : IntKind.i64.wrap (l - (s.length : Int)) < 0 <;> simp [E17, h]
theorem l19 (k : Nat) (x : Int) (s : List UInt8) (y : Int) : callF cfg (k + 1) 19 h19 [.i x, .s s, .i y] = .ret [.i x, .s s, .i y] := by
  rw [eq19]
  simp [E19]
def pl (x : Int) : Bool := x == 2 || (x == 3 || x == 4)
def ap (a b : Int) (s : List UInt8) : Bool := (pl a && pl b) || ((a == 5) && (b == 5)) || ((a == 3 || a == 4) && (b == 1) && s == [46, 46, 46])
theorem l18 (k : Nat) (a : Int) (s : List UInt8) (y b : Int) (s' : List UInt8) (y' : Int) : callF cfg (k + 3) 18 h18 [.i a, .s s, .i y, .i b, .s s', .i y'] = .ret [.b (ap a b s')] := by
  rw [eq18 (k + 2)]
  simp only [E18, List.getD_cons_zero, List.getD_cons_succ, DC.ii_i, DC.ss_s, l28, Out.bindR_ret, DC.bb_b, ap, pl]
  generalize (a == 2 || (a == 3 || a == 4)) = p
  generalize (b == 2 || (b == 3 || b == 4)) = q
  generalize (a == 5) = a5
  generalize (b == 5) = b5
  cases p <;> cases q <;> cases a5 <;> cases b5 <;> simp only [if_true, if_false, Bool.false_eq_true, Out.andThen_norm, List.getD_cons_zero, List.getD_cons_succ, DC.ii_i, DC.ss_s, DC.bb_b]
  all_goals
    generalize (a == 3) = a3
    generalize (a == 4) = a4
    generalize (b == 1) = b1
    generalize (s' == [46, 46, 46]) = z
    cases a3 <;> cases a4 <;> cases b1 <;> cases z <;> rfl
theorem l20 (k : Nat) (a : Int) (s : List UInt8) (y b : Int) (s' : List UInt8) (y' : Int) : callF cfg (k + 3) 20 h20 [.i a, .s s, .i y, .i b, .s s', .i y'] = .ret [.b (ap a b s')] := by
  rw [eq20 (k + 2)]
  simp only [E20, List.getD_cons_zero, List.getD_cons_succ, DC.ii_i, DC.ss_s, l29, Out.bindR_ret, DC.bb_b, ap, pl]
  generalize (a == 2 || (a == 3 || a == 4)) = p
  generalize (b == 2 || (b == 3 || b == 4)) = q
  cases p <;> cases q <;> simp only [if_true, if_false, Bool.false_eq_true, Out.andThen_norm, List.getD_cons_zero, List.getD_cons_succ, DC.ii_i, DC.ss_s, DC.bb_b, l30 (k + 1), Out.bindR_ret]
  all_goals
    generalize (a == 3) = a3
    generalize (a == 4) = a4
    generalize (b == 1) = b1
    generalize (s' == [46, 46, 46]) = z
    cases a3 <;> cases a4 <;> cases b1 <;> cases z <;> simp only [Bool.or_true, Bool.true_or, Bool.or_false, Bool.false_or, if_true, if_false, Bool.false_eq_true, Out.andThen_norm, Out.andThen_ret, Out.andThenB_norm, Out.andThenB_ret, List.getD_cons_zero, List.getD_cons_succ, DC.ii_i, DC.ss_s, DC.bb_b]
  all_goals
    generalize (a == 5) = a5
    generalize (b == 5) = b5
    cases a5 <;> cases b5 <;> rfl
theorem law7 (d : List DC) : Evt (fun k => callF cfg k 7 h7 d) (.ret [.b true]) := by
  refine ⟨6, fun k hk => ?_⟩
  obtain ⟨k, rfl⟩ : ∃ j, k = j + 6 := ⟨k - 6, by omega⟩
  dsimp only
  rw [eq7 (k + 5)]
  simp only [E7, l17 (k + 4), l19 (k + 4), l18 (k + 2), l20 (k + 2), Out.bindR_ret, List.getD_cons_zero, List.getD_cons_succ, DC.ii_i, DC.ss_s, DC.bb_b]
  split
  · rfl
  · split
    · rfl
    · simp
end Go.Proofs.YtdobbcpmpgpkcaaV
