/- The law FnExactSameDoc answers true for each input that its row may have. -/
import Derived.Test.YtljggmbgbnmapaaGreatQ3
import Derived.Test.YtljggmbgbnmapaaGreatD
namespace Go.Proofs.YtljggmbgbnmapaaGreatV
open Go
set_option linter.unusedVariables false
set_option linter.unusedSimpArgs false
set_option maxRecDepth 100000
theorem wfl_app {ty : Nat → Option TI} : ∀ {ts1 ts2 : List CT} {x : List DC}, WfL ty (ts1 ++ ts2) x → ∃ y z, x = y ++ z ∧ WfL ty ts1 y ∧ WfL ty ts2 z
  | [], ts2, x, h => ⟨[], x, rfl, .nil, h⟩
  | t :: ts1, ts2, x, h => by
    obtain ⟨c, xs, rfl, h1, h2⟩ := wfl_cons h
    obtain ⟨y, z, rfl, h3, h4⟩ := wfl_app h2
    exact ⟨c :: y, z, rfl, .cons _ _ _ _ h1 h3, h4⟩
theorem law_FnExactSameDoc (d : List DC) (hd : WfL cfg.ty [.sl 72, .sl 72] d) : r_laws_FnExactSameDoc d = .ret [.b true] := by
  obtain ⟨y0, z0, e0, w0, hd⟩ := wfl_app (ts1 := [.sl 72]) (ts2 := [.sl 72]) hd
  obtain ⟨y1, z1, e1, w1, hd⟩ := wfl_app (ts1 := [.sl 72]) (ts2 := []) hd
  have hz := wfl_nil hd
  have k0 := wfl_ok w0
  obtain ⟨a0, g0⟩ := dec_Doc w0
  subst g0
  have k1 := wfl_ok w1
  obtain ⟨a1, g1⟩ := dec_Doc w1
  subst g1
  subst hz
  subst e1
  subst e0
  rw [eq_laws_FnExactSameDoc]
  simp only [E_laws_FnExactSameDoc, TDoc.enc_eq, List.cons_append, List.nil_append, List.append_nil, List.getD_cons_zero, List.getD_cons_succ, DC.bb_b, DC.ii_i, DC.ss_s, DC.ll_sl]
  rw [sz_Doc a0 k0 (1048576) (by omega) (by omega)]
  simp only [Out.bindR_ret, List.getD_cons_zero, List.getD_cons_succ, DC.bb_b, DC.ii_i, DC.ss_s, DC.ll_sl]
  by_cases s0 : (1048576 : Int) < ((wtL (TDoc.enc a0) : Nat) : Int)
  · rw [szR_lt s0]
    rfl
  rw [szR_ge s0]
  have s0' : ¬ (1048576 : Int) - ((wtL (TDoc.enc a0) : Nat) : Int) < 0 := by omega
  simp only [s0', decide_false, Bool.false_eq_true, if_false]
  have W0 : wtL (TDoc.enc a0) ≤ 1048576 := by omega
  have l0_items : a0.items.length ≤ 1048576 := by have h := W0; simp only [TDoc.enc_eq, wtL, DC.wt, List.length_map] at h; omega
  rw [sz_Doc a1 k1 (1048576 - ((wtL (TDoc.enc a0) : Nat) : Int)) (by omega) (by omega)]
  simp only [Out.bindR_ret, List.getD_cons_zero, List.getD_cons_succ, DC.bb_b, DC.ii_i, DC.ss_s, DC.ll_sl]
  by_cases s1 : (1048576 - ((wtL (TDoc.enc a0) : Nat) : Int) : Int) < ((wtL (TDoc.enc a1) : Nat) : Int)
  · rw [szR_lt s1]
    rfl
  rw [szR_ge s1]
  have s1' : ¬ (1048576 - ((wtL (TDoc.enc a0) : Nat) : Int) : Int) - ((wtL (TDoc.enc a1) : Nat) : Int) < 0 := by omega
  simp only [s1', decide_false, Bool.false_eq_true, if_false]
  have W1 : wtL (TDoc.enc a1) ≤ 1048576 := by omega
  have l1_items : a1.items.length ≤ 1048576 := by have h := W1; simp only [TDoc.enc_eq, wtL, DC.wt, List.length_map] at h; omega
  have hs := spec_SameDoc_ok a0 W0 a1
  have hi := impl_SameDoc_ok a0 W0 a1
  simp only [to_Doc a0 W0, eq_Doc a0 W0, to_Doc a1 W1, eq_Doc a1 W1, hs, hi, TDoc.enc_eq, List.getD_cons_zero, List.getD_cons_succ, DC.bb_b, DC.ii_i, DC.ss_s, DC.ll_sl, Out.bindR_ret, bne_self_eq_false, beq_self_eq_true, Bool.not_true, Bool.false_eq_true, if_false]
end Go.Proofs.YtljggmbgbnmapaaGreatV
