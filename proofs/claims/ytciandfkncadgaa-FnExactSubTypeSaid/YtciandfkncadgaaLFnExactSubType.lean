/- The law FnExactSubType answers true for each input that its row may have. -/
import Derived.Test.YtciandfkncadgaaA4
import Derived.Test.YtciandfkncadgaaD
namespace Go.Proofs.YtciandfkncadgaaV
open Go
set_option linter.unusedVariables false
set_option linter.unusedSimpArgs false
set_option maxRecDepth 100000
theorem wfl_app {ty : Nat → Option TI} : ∀ {ts1 ts2 : List CT} {x : List DC}, WfL ty (ts1 ++ ts2) x → ∃ y z, x = y ++ z ∧ WfL ty ts1 y ∧ WfL ty ts2 z
  | [], ts2, x, h => ⟨[], x, rfl, .nil, h⟩
  | t :: ts1, ts2, x, h => by
    obtain ⟨c, xs, rfl, h1, h2⟩ := wfl_cons h
    obtain ⟨y, z, rfl, h3, h4⟩ := wfl_app h2
    exact ⟨c :: y, z, rfl, .cons _ _ _ _ h1 h3, h4⟩
theorem law_FnExactSubType (d : List DC) (hd : WfL cfg.ty [.sl 107, .sl 107, .sl 109, .s, .s, .s, .s] d) : r_laws_FnExactSubType d = .ret [.b true] := by
  obtain ⟨y0, z0, e0, w0, hd⟩ := wfl_app (ts1 := [.sl 107, .sl 107, .sl 109]) (ts2 := [.s, .s, .s, .s]) hd
  obtain ⟨y1, z1, e1, w1, hd⟩ := wfl_app (ts1 := [.s, .s]) (ts2 := [.s, .s]) hd
  obtain ⟨y2, z2, e2, w2, hd⟩ := wfl_app (ts1 := [.s, .s]) (ts2 := []) hd
  have hz := wfl_nil hd
  have k0 := wfl_ok w0
  obtain ⟨a0, g0⟩ := dec_Schema w0
  subst g0
  have k1 := wfl_ok w1
  obtain ⟨a1, g1⟩ := dec_Type w1
  subst g1
  have k2 := wfl_ok w2
  obtain ⟨a2, g2⟩ := dec_Type w2
  subst g2
  subst hz
  subst e2
  subst e1
  subst e0
  rw [eq_laws_FnExactSubType]
  simp only [E_laws_FnExactSubType, TSchema.enc_eq, TType.enc_eq, List.cons_append, List.nil_append, List.append_nil, List.getD_cons_zero, List.getD_cons_succ, DC.bb_b, DC.ii_i, DC.ss_s, DC.ll_sl]
  rw [sz_Schema a0 k0 (1048576) (by omega) (by omega)]
  simp only [Out.bindR_ret, List.getD_cons_zero, List.getD_cons_succ, DC.bb_b, DC.ii_i, DC.ss_s, DC.ll_sl]
  by_cases s0 : (1048576 : Int) < ((wtL (TSchema.enc a0) : Nat) : Int)
  · rw [szR_lt s0]
    rfl
  rw [szR_ge s0]
  have s0' : ¬ (1048576 : Int) - ((wtL (TSchema.enc a0) : Nat) : Int) < 0 := by omega
  simp only [s0', decide_false, Bool.false_eq_true, if_false]
  have W0 : wtL (TSchema.enc a0) ≤ 1048576 := by omega
  have l0_types : a0.types.length ≤ 1048576 := by have h := W0; simp only [TSchema.enc_eq, wtL, DC.wt, List.length_map] at h; omega
  have l0_dirs : a0.dirs.length ≤ 1048576 := by have h := W0; simp only [TSchema.enc_eq, wtL, DC.wt, List.length_map] at h; omega
  have l0_roots : a0.roots.length ≤ 1048576 := by have h := W0; simp only [TSchema.enc_eq, wtL, DC.wt, List.length_map] at h; omega
  rw [sz_Type a1 k1 (1048576 - ((wtL (TSchema.enc a0) : Nat) : Int)) (by omega) (by omega)]
  simp only [Out.bindR_ret, List.getD_cons_zero, List.getD_cons_succ, DC.bb_b, DC.ii_i, DC.ss_s, DC.ll_sl]
  by_cases s1 : (1048576 - ((wtL (TSchema.enc a0) : Nat) : Int) : Int) < ((wtL (TType.enc a1) : Nat) : Int)
  · rw [szR_lt s1]
    rfl
  rw [szR_ge s1]
  have s1' : ¬ (1048576 - ((wtL (TSchema.enc a0) : Nat) : Int) : Int) - ((wtL (TType.enc a1) : Nat) : Int) < 0 := by omega
  simp only [s1', decide_false, Bool.false_eq_true, if_false]
  have W1 : wtL (TType.enc a1) ≤ 1048576 := by omega
  rw [sz_Type a2 k2 (1048576 - ((wtL (TSchema.enc a0) : Nat) : Int) - ((wtL (TType.enc a1) : Nat) : Int)) (by omega) (by omega)]
  simp only [Out.bindR_ret, List.getD_cons_zero, List.getD_cons_succ, DC.bb_b, DC.ii_i, DC.ss_s, DC.ll_sl]
  by_cases s2 : (1048576 - ((wtL (TSchema.enc a0) : Nat) : Int) - ((wtL (TType.enc a1) : Nat) : Int) : Int) < ((wtL (TType.enc a2) : Nat) : Int)
  · rw [szR_lt s2]
    rfl
  rw [szR_ge s2]
  have s2' : ¬ (1048576 - ((wtL (TSchema.enc a0) : Nat) : Int) - ((wtL (TType.enc a1) : Nat) : Int) : Int) - ((wtL (TType.enc a2) : Nat) : Int) < 0 := by omega
  simp only [s2', decide_false, Bool.false_eq_true, if_false]
  have W2 : wtL (TType.enc a2) ≤ 1048576 := by omega
  have w0 : DC.wt (.sl (a0.types.map TDef.enc)) ≤ 1048576 := by have h := W0; simp only [TSchema.enc_eq, wtL] at h; omega
  have w1 : a1.wraps.length + a2.wraps.length ≤ 1048576 := by have h := W1; have h' := W2; simp only [TType.enc_eq, wtL, DC.wt] at h h' s1 s2; omega
  have hs := spec_SubType a0.types (a0.dirs.map TDef.enc) (a0.roots.map TRoot.enc) a1.name a1.wraps a2.name a2.wraps w0 w1
  have hi := impl_SubType a0.types (a0.dirs.map TDef.enc) (a0.roots.map TRoot.enc) a1.name a1.wraps a2.name a2.wraps w0 w1
  simp only [to_Schema a0 W0, eq_Schema a0 W0, to_Type a1 W1, eq_Type a1 W1, to_Type a2 W2, eq_Type a2 W2, hs, hi, TSchema.enc_eq, TType.enc_eq, List.getD_cons_zero, List.getD_cons_succ, DC.bb_b, DC.ii_i, DC.ss_s, DC.ll_sl, Out.bindR_ret, bne_self_eq_false, beq_self_eq_true, Bool.not_true, Bool.false_eq_true, if_false]
end Go.Proofs.YtciandfkncadgaaV
