/- The law FnExactInCycle answers true for each input that its row may have. -/
import Derived.Test.YtciandfkncadgaaA5
import Derived.Test.YtciandfkncadgaaD
namespace Go.Proofs.YtciandfkncadgaaV
open Go
set_option linter.unusedVariables false
set_option linter.unusedSimpArgs false
set_option maxRecDepth 100000
theorem wfl_app {ty : Nat → Option TI} : ∀ {ts1 ts2 : List CT} {x : List DC}, WfL ty (ts1 ++ ts2) x → ∃ y z, x = y ++ z ∧ WfL ty ts1 y ∧ WfL ty ts2 z
  | [], ts2, x, h => ⟨[], x, rfl, .nil, h⟩
  | t :: ts1, ts2, x, h => by
    obtain ⟨c, xs, rfl, h1, h2⟩ := wfl_cons h
    obtain ⟨y, z, rfl, h3, h4⟩ := wfl_app h2
    exact ⟨c :: y, z, rfl, .cons _ _ _ _ h1 h3, h4⟩
theorem law_FnExactInCycle (d : List DC) (hd : WfL cfg.ty [.sl 107, .sl 107, .sl 109, .s] d) : r_laws_FnExactInCycle d = .ret [.b true] := by
  obtain ⟨y0, z0, e0, w0, hd⟩ := wfl_app (ts1 := [.sl 107, .sl 107, .sl 109]) (ts2 := [.s]) hd
  obtain ⟨y1, z1, e1, w1, hd⟩ := wfl_app (ts1 := [.s]) (ts2 := []) hd
  have hz := wfl_nil hd
  have k0 := wfl_ok w0
  obtain ⟨a0, g0⟩ := dec_Schema w0
  subst g0
  obtain ⟨c1, q1, f1, v1, u1⟩ := wfl_cons w1
  have x1 := wfl_nil u1
  have k1 := wfc_ok v1
  obtain ⟨a1, g1⟩ := dec_s v1
  subst g1 x1 f1
  subst hz
  subst e1
  subst e0
  rw [eq_laws_FnExactInCycle]
  simp only [E_laws_FnExactInCycle, TSchema.enc_eq, List.cons_append, List.nil_append, List.append_nil, List.getD_cons_zero, List.getD_cons_succ, DC.bb_b, DC.ii_i, DC.ss_s, DC.ll_sl]
  by_cases b1 : (a1.length : Int) > 1048576
  · simp only [b1, decide_true, if_true]
  simp only [b1, decide_false, Bool.false_eq_true, if_false]
  rw [sz_Schema a0 k0 (1048576) (by omega) (by omega)]
  simp only [Out.bindR_ret, List.getD_cons_zero, List.getD_cons_succ, DC.bb_b, DC.ii_i, DC.ss_s, DC.ll_sl]
  by_cases s0 : (1048576 : Int) < ((wtL (TSchema.enc a0) : Nat) : Int)
  · rw [szR_lt s0]
    rfl
  rw [szR_ge s0]
  have s0' : ¬ (1048576 : Int) - ((wtL (TSchema.enc a0) : Nat) : Int) < 0 := by omega
  simp only [s0', decide_false, Bool.false_eq_true, if_false]
  have W0 : wtL (TSchema.enc a0) ≤ 1048576 := by omega
  have l0_types : a0.types.length ≤ 1048576 := by have h := W0; simp only [TSchema.enc_eq, wtL, DC.wt, List.length_map] at h; omega
  have l0_dirs : a0.dirs.length ≤ 1048576 := by have h := W0; simp only [TSchema.enc_eq, wtL, DC.wt, List.length_map] at h; omega
  have l0_roots : a0.roots.length ≤ 1048576 := by have h := W0; simp only [TSchema.enc_eq, wtL, DC.wt, List.length_map] at h; omega
  have w0 : DC.wt (.sl (a0.types.map TDef.enc)) ≤ 1048576 := by have h := W0; simp only [TSchema.enc_eq, wtL] at h; omega
  have hs := spec_InCycle a0.types (a0.dirs.map TDef.enc) (a0.roots.map TRoot.enc) a1 w0
  have hi := impl_InCycle a0.types (a0.dirs.map TDef.enc) (a0.roots.map TRoot.enc) a1 w0
  simp only [to_Schema a0 W0, eq_Schema a0 W0, hs, hi, TSchema.enc_eq, List.getD_cons_zero, List.getD_cons_succ, DC.bb_b, DC.ii_i, DC.ss_s, DC.ll_sl, Out.bindR_ret, bne_self_eq_false, beq_self_eq_true, Bool.not_true, Bool.false_eq_true, if_false]
end Go.Proofs.YtciandfkncadgaaV
