import Derived.Test.YthjfcobfjljkpabGreatDoorMD7
import Derived.Test.YthjfcobfjljkpabGreatDoorMD5
/- Definitions: both implementations answer the same (written by a program in part). -/
namespace Go.Proofs.QV
open Go
set_option linter.unusedVariables false
set_option linter.unusedSimpArgs false
set_option maxRecDepth 100000
def ne {α : Type} (l : List α) : Bool := !l.isEmpty
theorem len_pos {α : Type} (l : List α) (f : α → List DC) : decide (((l.map f).length : Int) > 0) = ne l := by
  cases l with
  | nil => rfl
  | cons a l => exact decide_eq_true (by simp)
theorem len_zero {α : Type} (l : List α) (f : α → List DC) : (((l.map f).length : Int) == 0) = !ne l := by rw [len0]; unfold ne; cases l.isEmpty <;> rfl
theorem def_wt (v : TDef) : wtL v.enc = v.desc.length + v.name.length + DC.wt (.sl (v.faces.map S1)) + DC.wt (.sl (v.fields.map TFieldDef.enc)) + DC.wt (.sl (v.inputs.map TInDef.enc)) + DC.wt (.sl (v.values.map TEnumDef.enc)) + DC.wt (.sl (v.roots.map TRoot.enc)) + DC.wt (.sl (v.dirs.map TDir.enc)) := by
  rw [TDef.enc_eq]
  simp only [wtL]
  simp only [DC.wt]
  omega
def some6 (v : TDef) : Bool := ne v.faces || (ne v.fields || (ne v.inputs || (ne v.values || (ne v.roots || ne v.dirs))))
theorem sum_pos (a b c d e f : Nat) (h : a ≤ 1048576 ∧ b ≤ 1048576 ∧ c ≤ 1048576 ∧ d ≤ 1048576 ∧ e ≤ 1048576 ∧ f ≤ 1048576) :
    decide (IntKind.i64.wrap (IntKind.i64.wrap (IntKind.i64.wrap (IntKind.i64.wrap (IntKind.i64.wrap ((a : Int) + b) + c) + d) + e) + f) > 0) = (decide ((a : Int) > 0) || (decide ((b : Int) > 0) || (decide ((c : Int) > 0) || (decide ((d : Int) > 0) || (decide ((e : Int) > 0) || decide ((f : Int) > 0)))))) := by
  rw [wrap64 (n := (a : Int) + b) (by omega) (by omega), wrap64 (n := (a : Int) + b + c) (by omega) (by omega), wrap64 (n := (a : Int) + b + c + d) (by omega) (by omega), wrap64 (n := (a : Int) + b + c + d + e) (by omega) (by omega), wrap64 (n := (a : Int) + b + c + d + e + f) (by omega) (by omega)]
  simp only [← Bool.decide_or]
  exact decide_eq_decide.2 (by omega)
theorem def_lens (v : TDef) (hw : wtL v.enc ≤ 1048576) : v.faces.length ≤ 1048576 ∧ v.fields.length ≤ 1048576 ∧ v.inputs.length ≤ 1048576 ∧ v.values.length ≤ 1048576 ∧ v.roots.length ≤ 1048576 ∧ v.dirs.length ≤ 1048576 := by
  rw [def_wt] at hw
  simp only [DC.wt, zm] at hw
  omega
theorem spec_l13Has (v : TDef) (hw : wtL v.enc ≤ 1048576) : r_spec_l13Has [.i v.kind, .b v.ext, .s v.desc, .s v.name, .sl (v.faces.map S1), .sl (v.fields.map TFieldDef.enc), .sl (v.inputs.map TInDef.enc), .sl (v.values.map TEnumDef.enc), .sl (v.roots.map TRoot.enc), .b v.repeat', .sl (v.dirs.map TDir.enc)] = .ret [.b (some6 v)] := by
  have h := def_lens v hw
  rw [eq_spec_l13Has]
  simp only [E_spec_l13Has, zz0, zz1, zb, zi, zs, zl]
  rw [sum_pos _ _ _ _ _ _ (by simpa only [zm] using h)]
  simp only [len_pos, some6]
theorem impl_something (v : TDef) (hw : wtL v.enc ≤ 1048576) : r_impl_something [.i v.kind, .b v.ext, .s v.desc, .s v.name, .sl (v.faces.map S1), .sl (v.fields.map TFieldDef.enc), .sl (v.inputs.map TInDef.enc), .sl (v.values.map TEnumDef.enc), .sl (v.roots.map TRoot.enc), .b v.repeat', .sl (v.dirs.map TDir.enc)] = .ret [.b (some6 v)] := by
  have h := def_lens v hw
  rw [eq_impl_something]
  simp only [E_impl_something, zz0, zz1, zb, zi, zs, zl]
  rw [sum_pos _ _ _ _ _ _ (by simpa only [zm] using h)]
  simp only [len_pos, some6]
def mayB (K : Int) (ext nn rep fa f i v r d pl : Bool) : Bool :=
  !((!(K == 2 || K == 3) && f) || ((!(K == 2 || K == 3) && (K != 4 && (K != 7 && fa))) || ((K != 6 && (K != 7 && i)) || ((K != 5 && v) || ((K != 8 && r) || (K != 7 && rep)))))) &&
  (if (K == 7) = true then pl && (fa && (!ext && !d)) else (K != 8 || (nn && (ext || r))))
def blB (K : Int) (rep fa f i v r d : Bool) : Bool :=
  !((f && !(K == 2 || K == 3)) || (fa && (!(K == 2 || K == 3) && (K != 4 && K != 7)))) && (!((i && (K != 6 && K != 7)) || (v && K != 5)) && ((!r || K == 8) && ((!d || K != 7) && (!rep || K == 7))))
theorem kind_facts2 {K : Int} (k : K = 2) : (K == 2) = true ∧ (K == 3) = false ∧ (K == 4) = false ∧ (K == 5) = false ∧ (K == 6) = false ∧ (K == 7) = false ∧ (K == 8) = false := by
  subst k; decide
theorem kind_facts3 {K : Int} (k : K = 3) : (K == 2) = false ∧ (K == 3) = true ∧ (K == 4) = false ∧ (K == 5) = false ∧ (K == 6) = false ∧ (K == 7) = false ∧ (K == 8) = false := by
  subst k; decide
theorem kind_facts4 {K : Int} (k : K = 4) : (K == 2) = false ∧ (K == 3) = false ∧ (K == 4) = true ∧ (K == 5) = false ∧ (K == 6) = false ∧ (K == 7) = false ∧ (K == 8) = false := by
  subst k; decide
theorem kind_facts5 {K : Int} (k : K = 5) : (K == 2) = false ∧ (K == 3) = false ∧ (K == 4) = false ∧ (K == 5) = true ∧ (K == 6) = false ∧ (K == 7) = false ∧ (K == 8) = false := by
  subst k; decide
theorem kind_facts6 {K : Int} (k : K = 6) : (K == 2) = false ∧ (K == 3) = false ∧ (K == 4) = false ∧ (K == 5) = false ∧ (K == 6) = true ∧ (K == 7) = false ∧ (K == 8) = false := by
  subst k; decide
theorem kind_facts7 {K : Int} (k : K = 7) : (K == 2) = false ∧ (K == 3) = false ∧ (K == 4) = false ∧ (K == 5) = false ∧ (K == 6) = false ∧ (K == 7) = true ∧ (K == 8) = false := by
  subst k; decide
theorem kind_facts8 {K : Int} (k : K = 8) : (K == 2) = false ∧ (K == 3) = false ∧ (K == 4) = false ∧ (K == 5) = false ∧ (K == 6) = false ∧ (K == 7) = false ∧ (K == 8) = true := by
  subst k; decide
theorem kind_facts0 {K : Int} (k2 : ¬K = 2) (k3 : ¬K = 3) (k4 : ¬K = 4) (k5 : ¬K = 5) (k6 : ¬K = 6) (k7 : ¬K = 7) (k8 : ¬K = 8) : (K == 2) = false ∧ (K == 3) = false ∧ (K == 4) = false ∧ (K == 5) = false ∧ (K == 6) = false ∧ (K == 7) = false ∧ (K == 8) = false := by
  exact ⟨beq_eq_false_iff_ne.2 k2, beq_eq_false_iff_ne.2 k3, beq_eq_false_iff_ne.2 k4, beq_eq_false_iff_ne.2 k5, beq_eq_false_iff_ne.2 k6, beq_eq_false_iff_ne.2 k7, beq_eq_false_iff_ne.2 k8⟩
noncomputable def placesOk (l : List (List UInt8)) : Bool := l.all placeOk
theorem spec_l13May (v : TDef) (hw : wtL v.enc ≤ 1048576) : r_spec_l13May [.i v.kind, .b v.ext, .s v.desc, .s v.name, .sl (v.faces.map S1), .sl (v.fields.map TFieldDef.enc), .sl (v.inputs.map TInDef.enc), .sl (v.values.map TEnumDef.enc), .sl (v.roots.map TRoot.enc), .b v.repeat', .sl (v.dirs.map TDir.enc)] = .ret [.b (mayB v.kind v.ext (v.name == []) v.repeat' (ne v.faces) (ne v.fields) (ne v.inputs) (ne v.values) (ne v.roots) (ne v.dirs) (placesOk v.faces))] := by
  have hl := def_lens v hw
  have hlp : Loop E_spec_l13MayL1 [.i 0, .i v.kind, .b v.ext, .s v.desc, .s v.name, .sl (v.faces.map S1), .sl (v.fields.map TFieldDef.enc), .sl (v.inputs.map TInDef.enc), .sl (v.values.map TEnumDef.enc), .sl (v.roots.map TRoot.enc), .b v.repeat', .sl (v.dirs.map TDir.enc)] = if v.faces.all placeOk = true then .ex 0 [.i v.kind, .b v.ext, .s v.desc, .s v.name, .sl (v.faces.map S1), .sl (v.fields.map TFieldDef.enc), .sl (v.inputs.map TInDef.enc), .sl (v.values.map TEnumDef.enc), .sl (v.roots.map TRoot.enc), .b v.repeat', .sl (v.dirs.map TDir.enc)] else .ret [.b false] := by
    rw [show (0 : Int) = ((0 : Nat) : Int) from rfl, Loop_find0 (l := v.faces) (st := fun i => [.i (i : Int), .i v.kind, .b v.ext, .s v.desc, .s v.name, .sl (v.faces.map S1), .sl (v.fields.map TFieldDef.enc), .sl (v.inputs.map TInDef.enc), .sl (v.values.map TEnumDef.enc), .sl (v.roots.map TRoot.enc), .b v.repeat', .sl (v.dirs.map TDir.enc)]) (p := fun x => !placeOk x) (stop := fun i _ => .ret [.b false]) (fin := .ex 0 [.i v.kind, .b v.ext, .s v.desc, .s v.name, .sl (v.faces.map S1), .sl (v.fields.map TFieldDef.enc), .sl (v.inputs.map TInDef.enc), .sl (v.values.map TEnumDef.enc), .sl (v.roots.map TRoot.enc), .b v.repeat', .sl (v.dirs.map TDir.enc)]) (fun i hi => ?step) (fun _ _ => Out.esc_ret _) ?fin (Out.esc_ex _ _), goF_any]
    · rw [show (v.faces.any fun x => !placeOk x) = !(v.faces.all placeOk) by rw [List.not_all_eq_any_not]]
      cases v.faces.all placeOk <;> simp
    case step =>
      have hx := spec_PlaceOk v.faces[i]
      have c2 : 0 ≤ (i : Int) ∧ (i : Int) < (v.faces.length : Int) := by omega
      have d : decide ((i : Int) < (v.faces.length : Int)) = true := decide_eq_true (by omega)
      simp only [E_spec_l13MayL1, zz0, zz1, zb, zi, zs, zl, Int.toNat_natCast, zm, map_getD hi, d, c2, S1, hx, Out.bindR_ret, true_and, and_self, if_true, decide_true]
      rcases zt (placeOk v.faces[i]) with q | q <;> simp [q, wrap_succ hi (show v.faces.length ≤ 9223372036854775807 by omega)]
    case fin => simp [E_spec_l13MayL1]
  rw [show v.faces.all placeOk = placesOk v.faces from rfl] at hlp
  rw [eq_spec_l13May]
  unfold mayB
  by_cases k2 : v.kind = 2
  · obtain ⟨c2, c3, c4, c5, c6, c7, c8⟩ := kind_facts2 k2
    clear k2
    rcases zt (ne v.inputs) with h_i | h_i
    rotate_left
    rcases zt (ne v.values) with h_v | h_v
    rotate_left
    rcases zt (ne v.roots) with h_r | h_r
    rotate_left
    rcases zt (v.repeat') with h_rep | h_rep
    rotate_left
    all_goals simp only [E_spec_l13May, zz0, zz1, zb, zi, zs, zl, Out.andThen_norm, Out.andThenB_ret, Out.andThenB_ex, Out.andThenB_norm, len_pos, len_zero, bne, eq_self, if_true, if_false, zf, Bool.not_true, Bool.not_false, Bool.and_true, Bool.true_and, Bool.and_false, Bool.false_and, Bool.or_true, Bool.true_or, Bool.or_false, Bool.false_or, Bool.or_self, Bool.and_self, *]
  by_cases k3 : v.kind = 3
  · obtain ⟨c2, c3, c4, c5, c6, c7, c8⟩ := kind_facts3 k3
    clear k2 k3
    rcases zt (ne v.inputs) with h_i | h_i
    rotate_left
    rcases zt (ne v.values) with h_v | h_v
    rotate_left
    rcases zt (ne v.roots) with h_r | h_r
    rotate_left
    rcases zt (v.repeat') with h_rep | h_rep
    rotate_left
    all_goals simp only [E_spec_l13May, zz0, zz1, zb, zi, zs, zl, Out.andThen_norm, Out.andThenB_ret, Out.andThenB_ex, Out.andThenB_norm, len_pos, len_zero, bne, eq_self, if_true, if_false, zf, Bool.not_true, Bool.not_false, Bool.and_true, Bool.true_and, Bool.and_false, Bool.false_and, Bool.or_true, Bool.true_or, Bool.or_false, Bool.false_or, Bool.or_self, Bool.and_self, *]
  by_cases k4 : v.kind = 4
  · obtain ⟨c2, c3, c4, c5, c6, c7, c8⟩ := kind_facts4 k4
    clear k2 k3 k4
    rcases zt (ne v.fields) with h_f | h_f
    rotate_left
    rcases zt (ne v.inputs) with h_i | h_i
    rotate_left
    rcases zt (ne v.values) with h_v | h_v
    rotate_left
    rcases zt (ne v.roots) with h_r | h_r
    rotate_left
    rcases zt (v.repeat') with h_rep | h_rep
    rotate_left
    all_goals simp only [E_spec_l13May, zz0, zz1, zb, zi, zs, zl, Out.andThen_norm, Out.andThenB_ret, Out.andThenB_ex, Out.andThenB_norm, len_pos, len_zero, bne, eq_self, if_true, if_false, zf, Bool.not_true, Bool.not_false, Bool.and_true, Bool.true_and, Bool.and_false, Bool.false_and, Bool.or_true, Bool.true_or, Bool.or_false, Bool.false_or, Bool.or_self, Bool.and_self, *]
  by_cases k5 : v.kind = 5
  · obtain ⟨c2, c3, c4, c5, c6, c7, c8⟩ := kind_facts5 k5
    clear k2 k3 k4 k5
    rcases zt (ne v.fields) with h_f | h_f
    rotate_left
    rcases zt (ne v.faces) with h_fa | h_fa
    rotate_left
    rcases zt (ne v.inputs) with h_i | h_i
    rotate_left
    rcases zt (ne v.roots) with h_r | h_r
    rotate_left
    rcases zt (v.repeat') with h_rep | h_rep
    rotate_left
    all_goals simp only [E_spec_l13May, zz0, zz1, zb, zi, zs, zl, Out.andThen_norm, Out.andThenB_ret, Out.andThenB_ex, Out.andThenB_norm, len_pos, len_zero, bne, eq_self, if_true, if_false, zf, Bool.not_true, Bool.not_false, Bool.and_true, Bool.true_and, Bool.and_false, Bool.false_and, Bool.or_true, Bool.true_or, Bool.or_false, Bool.false_or, Bool.or_self, Bool.and_self, *]
  by_cases k6 : v.kind = 6
  · obtain ⟨c2, c3, c4, c5, c6, c7, c8⟩ := kind_facts6 k6
    clear k2 k3 k4 k5 k6
    rcases zt (ne v.fields) with h_f | h_f
    rotate_left
    rcases zt (ne v.faces) with h_fa | h_fa
    rotate_left
    rcases zt (ne v.values) with h_v | h_v
    rotate_left
    rcases zt (ne v.roots) with h_r | h_r
    rotate_left
    rcases zt (v.repeat') with h_rep | h_rep
    rotate_left
    all_goals simp only [E_spec_l13May, zz0, zz1, zb, zi, zs, zl, Out.andThen_norm, Out.andThenB_ret, Out.andThenB_ex, Out.andThenB_norm, len_pos, len_zero, bne, eq_self, if_true, if_false, zf, Bool.not_true, Bool.not_false, Bool.and_true, Bool.true_and, Bool.and_false, Bool.false_and, Bool.or_true, Bool.true_or, Bool.or_false, Bool.false_or, Bool.or_self, Bool.and_self, *]
  by_cases k7 : v.kind = 7
  · obtain ⟨c2, c3, c4, c5, c6, c7, c8⟩ := kind_facts7 k7
    clear k2 k3 k4 k5 k6 k7
    rcases zt (ne v.fields) with h_f | h_f
    rotate_left
    rcases zt (ne v.values) with h_v | h_v
    rotate_left
    rcases zt (ne v.roots) with h_r | h_r
    rotate_left
    rcases zt (placesOk v.faces) with h_pl | h_pl <;> rcases zt (ne v.faces) with h_fa | h_fa <;> rcases zt (ne v.dirs) with h_d | h_d <;> rcases zt (v.ext) with h_ext | h_ext <;> simp only [h_ext] at hlp
    all_goals simp only [E_spec_l13May, zz0, zz1, zb, zi, zs, zl, Out.andThen_norm, Out.andThenB_ret, Out.andThenB_ex, Out.andThenB_norm, len_pos, len_zero, bne, eq_self, if_true, if_false, zf, Bool.not_true, Bool.not_false, Bool.and_true, Bool.true_and, Bool.and_false, Bool.false_and, Bool.or_true, Bool.true_or, Bool.or_false, Bool.false_or, Bool.or_self, Bool.and_self, *]
  by_cases k8 : v.kind = 8
  · obtain ⟨c2, c3, c4, c5, c6, c7, c8⟩ := kind_facts8 k8
    clear k2 k3 k4 k5 k6 k7 k8
    rcases zt (ne v.fields) with h_f | h_f
    rotate_left
    rcases zt (ne v.faces) with h_fa | h_fa
    rotate_left
    rcases zt (ne v.inputs) with h_i | h_i
    rotate_left
    rcases zt (ne v.values) with h_v | h_v
    rotate_left
    rcases zt (v.repeat') with h_rep | h_rep
    rotate_left
    rcases zt ((v.name == ([] : List UInt8))) with h_nn | h_nn <;> rcases zt (v.ext) with h_ext | h_ext <;> rcases zt (ne v.roots) with h_r | h_r
    all_goals simp only [E_spec_l13May, zz0, zz1, zb, zi, zs, zl, Out.andThen_norm, Out.andThenB_ret, Out.andThenB_ex, Out.andThenB_norm, len_pos, len_zero, bne, eq_self, if_true, if_false, zf, Bool.not_true, Bool.not_false, Bool.and_true, Bool.true_and, Bool.and_false, Bool.false_and, Bool.or_true, Bool.true_or, Bool.or_false, Bool.false_or, Bool.or_self, Bool.and_self, *]
  obtain ⟨c2, c3, c4, c5, c6, c7, c8⟩ := kind_facts0 k2 k3 k4 k5 k6 k7 k8
  clear k2 k3 k4 k5 k6 k7 k8
  rcases zt (ne v.fields) with h_f | h_f
  rotate_left
  rcases zt (ne v.faces) with h_fa | h_fa
  rotate_left
  rcases zt (ne v.inputs) with h_i | h_i
  rotate_left
  rcases zt (ne v.values) with h_v | h_v
  rotate_left
  rcases zt (ne v.roots) with h_r | h_r
  rotate_left
  rcases zt (v.repeat') with h_rep | h_rep
  rotate_left
  all_goals simp only [E_spec_l13May, zz0, zz1, zb, zi, zs, zl, Out.andThen_norm, Out.andThenB_ret, Out.andThenB_ex, Out.andThenB_norm, len_pos, len_zero, bne, eq_self, if_true, if_false, zf, Bool.not_true, Bool.not_false, Bool.and_true, Bool.true_and, Bool.and_false, Bool.false_and, Bool.or_true, Bool.true_or, Bool.or_false, Bool.false_or, Bool.or_self, Bool.and_self, *]
set_option maxHeartbeats 4000000 in
theorem impl_belongs (v : TDef) : r_impl_belongs [.i v.kind, .b v.ext, .s v.desc, .s v.name, .sl (v.faces.map S1), .sl (v.fields.map TFieldDef.enc), .sl (v.inputs.map TInDef.enc), .sl (v.values.map TEnumDef.enc), .sl (v.roots.map TRoot.enc), .b v.repeat', .sl (v.dirs.map TDir.enc)] = .ret [.b (blB v.kind v.repeat' (ne v.faces) (ne v.fields) (ne v.inputs) (ne v.values) (ne v.roots) (ne v.dirs))] := by
  rw [eq_impl_belongs]
  unfold blB
  by_cases k2 : v.kind = 2
  · obtain ⟨c2, c3, c4, c5, c6, c7, c8⟩ := kind_facts2 k2
    clear k2
    rcases zt (ne v.inputs) with h_i | h_i
    rotate_left
    rcases zt (ne v.values) with h_v | h_v
    rotate_left
    rcases zt (ne v.roots) with h_r | h_r <;> rcases zt (ne v.dirs) with h_d | h_d <;> rcases zt (v.repeat') with h_rep | h_rep
    all_goals simp only [E_impl_belongs, zz0, zz1, zb, zi, zs, zl, Out.andThen_norm, Out.andThenB_ret, Out.andThenB_ex, Out.andThenB_norm, len_pos, len_zero, bne, eq_self, if_true, if_false, zf, Bool.not_true, Bool.not_false, Bool.and_true, Bool.true_and, Bool.and_false, Bool.false_and, Bool.or_true, Bool.true_or, Bool.or_false, Bool.false_or, Bool.or_self, Bool.and_self, ite_self, *]
  by_cases k3 : v.kind = 3
  · obtain ⟨c2, c3, c4, c5, c6, c7, c8⟩ := kind_facts3 k3
    clear k2 k3
    rcases zt (ne v.inputs) with h_i | h_i
    rotate_left
    rcases zt (ne v.values) with h_v | h_v
    rotate_left
    rcases zt (ne v.roots) with h_r | h_r <;> rcases zt (ne v.dirs) with h_d | h_d <;> rcases zt (v.repeat') with h_rep | h_rep
    all_goals simp only [E_impl_belongs, zz0, zz1, zb, zi, zs, zl, Out.andThen_norm, Out.andThenB_ret, Out.andThenB_ex, Out.andThenB_norm, len_pos, len_zero, bne, eq_self, if_true, if_false, zf, Bool.not_true, Bool.not_false, Bool.and_true, Bool.true_and, Bool.and_false, Bool.false_and, Bool.or_true, Bool.true_or, Bool.or_false, Bool.false_or, Bool.or_self, Bool.and_self, ite_self, *]
  by_cases k4 : v.kind = 4
  · obtain ⟨c2, c3, c4, c5, c6, c7, c8⟩ := kind_facts4 k4
    clear k2 k3 k4
    rcases zt (ne v.fields) with h_f | h_f
    rotate_left
    rcases zt (ne v.inputs) with h_i | h_i
    rotate_left
    rcases zt (ne v.values) with h_v | h_v
    rotate_left
    rcases zt (ne v.roots) with h_r | h_r <;> rcases zt (ne v.dirs) with h_d | h_d <;> rcases zt (v.repeat') with h_rep | h_rep
    all_goals simp only [E_impl_belongs, zz0, zz1, zb, zi, zs, zl, Out.andThen_norm, Out.andThenB_ret, Out.andThenB_ex, Out.andThenB_norm, len_pos, len_zero, bne, eq_self, if_true, if_false, zf, Bool.not_true, Bool.not_false, Bool.and_true, Bool.true_and, Bool.and_false, Bool.false_and, Bool.or_true, Bool.true_or, Bool.or_false, Bool.false_or, Bool.or_self, Bool.and_self, ite_self, *]
  by_cases k5 : v.kind = 5
  · obtain ⟨c2, c3, c4, c5, c6, c7, c8⟩ := kind_facts5 k5
    clear k2 k3 k4 k5
    rcases zt (ne v.fields) with h_f | h_f
    rotate_left
    rcases zt (ne v.faces) with h_fa | h_fa
    rotate_left
    rcases zt (ne v.inputs) with h_i | h_i
    rotate_left
    rcases zt (ne v.roots) with h_r | h_r <;> rcases zt (ne v.dirs) with h_d | h_d <;> rcases zt (v.repeat') with h_rep | h_rep
    all_goals simp only [E_impl_belongs, zz0, zz1, zb, zi, zs, zl, Out.andThen_norm, Out.andThenB_ret, Out.andThenB_ex, Out.andThenB_norm, len_pos, len_zero, bne, eq_self, if_true, if_false, zf, Bool.not_true, Bool.not_false, Bool.and_true, Bool.true_and, Bool.and_false, Bool.false_and, Bool.or_true, Bool.true_or, Bool.or_false, Bool.false_or, Bool.or_self, Bool.and_self, ite_self, *]
  by_cases k6 : v.kind = 6
  · obtain ⟨c2, c3, c4, c5, c6, c7, c8⟩ := kind_facts6 k6
    clear k2 k3 k4 k5 k6
    rcases zt (ne v.fields) with h_f | h_f
    rotate_left
    rcases zt (ne v.faces) with h_fa | h_fa
    rotate_left
    rcases zt (ne v.values) with h_v | h_v
    rotate_left
    rcases zt (ne v.roots) with h_r | h_r <;> rcases zt (ne v.dirs) with h_d | h_d <;> rcases zt (v.repeat') with h_rep | h_rep
    all_goals simp only [E_impl_belongs, zz0, zz1, zb, zi, zs, zl, Out.andThen_norm, Out.andThenB_ret, Out.andThenB_ex, Out.andThenB_norm, len_pos, len_zero, bne, eq_self, if_true, if_false, zf, Bool.not_true, Bool.not_false, Bool.and_true, Bool.true_and, Bool.and_false, Bool.false_and, Bool.or_true, Bool.true_or, Bool.or_false, Bool.false_or, Bool.or_self, Bool.and_self, ite_self, *]
  by_cases k7 : v.kind = 7
  · obtain ⟨c2, c3, c4, c5, c6, c7, c8⟩ := kind_facts7 k7
    clear k2 k3 k4 k5 k6 k7
    rcases zt (ne v.fields) with h_f | h_f
    rotate_left
    rcases zt (ne v.values) with h_v | h_v
    rotate_left
    rcases zt (ne v.roots) with h_r | h_r <;> rcases zt (ne v.dirs) with h_d | h_d <;> rcases zt (v.repeat') with h_rep | h_rep
    all_goals simp only [E_impl_belongs, zz0, zz1, zb, zi, zs, zl, Out.andThen_norm, Out.andThenB_ret, Out.andThenB_ex, Out.andThenB_norm, len_pos, len_zero, bne, eq_self, if_true, if_false, zf, Bool.not_true, Bool.not_false, Bool.and_true, Bool.true_and, Bool.and_false, Bool.false_and, Bool.or_true, Bool.true_or, Bool.or_false, Bool.false_or, Bool.or_self, Bool.and_self, ite_self, *]
  by_cases k8 : v.kind = 8
  · obtain ⟨c2, c3, c4, c5, c6, c7, c8⟩ := kind_facts8 k8
    clear k2 k3 k4 k5 k6 k7 k8
    rcases zt (ne v.fields) with h_f | h_f
    rotate_left
    rcases zt (ne v.faces) with h_fa | h_fa
    rotate_left
    rcases zt (ne v.inputs) with h_i | h_i
    rotate_left
    rcases zt (ne v.values) with h_v | h_v
    rotate_left
    rcases zt (ne v.roots) with h_r | h_r <;> rcases zt (ne v.dirs) with h_d | h_d <;> rcases zt (v.repeat') with h_rep | h_rep
    all_goals simp only [E_impl_belongs, zz0, zz1, zb, zi, zs, zl, Out.andThen_norm, Out.andThenB_ret, Out.andThenB_ex, Out.andThenB_norm, len_pos, len_zero, bne, eq_self, if_true, if_false, zf, Bool.not_true, Bool.not_false, Bool.and_true, Bool.true_and, Bool.and_false, Bool.false_and, Bool.or_true, Bool.true_or, Bool.or_false, Bool.false_or, Bool.or_self, Bool.and_self, ite_self, *]
  obtain ⟨c2, c3, c4, c5, c6, c7, c8⟩ := kind_facts0 k2 k3 k4 k5 k6 k7 k8
  clear k2 k3 k4 k5 k6 k7 k8
  rcases zt (ne v.fields) with h_f | h_f
  rotate_left
  rcases zt (ne v.faces) with h_fa | h_fa
  rotate_left
  rcases zt (ne v.inputs) with h_i | h_i
  rotate_left
  rcases zt (ne v.values) with h_v | h_v
  rotate_left
  rcases zt (ne v.roots) with h_r | h_r <;> rcases zt (ne v.dirs) with h_d | h_d <;> rcases zt (v.repeat') with h_rep | h_rep
  all_goals simp only [E_impl_belongs, zz0, zz1, zb, zi, zs, zl, Out.andThen_norm, Out.andThenB_ret, Out.andThenB_ex, Out.andThenB_norm, len_pos, len_zero, bne, eq_self, if_true, if_false, zf, Bool.not_true, Bool.not_false, Bool.and_true, Bool.true_and, Bool.and_false, Bool.false_and, Bool.or_true, Bool.true_or, Bool.or_false, Bool.false_or, Bool.or_self, Bool.and_self, ite_self, *]
noncomputable def partsOk (v : TDef) : Bool := v.fields.all fieldOk && (insOk v.inputs && (v.values.all enumOk && (v.roots.all rootOk && (v.faces.all nameOk && constsOk v.dirs))))
theorem strs_wt {l : List (List UInt8)} {n : Nat} (h : DC.wt (.sl (l.map S1)) ≤ n) : ∀ x ∈ l, x.length ≤ n := fun x hx => by
  have := (sl_wt h).2 x hx
  simpa [S1, wtL, DC.wt] using this
theorem impl_partsOk (v : TDef) (hw : wtL v.enc ≤ 1048576) : r_impl_partsOk [.i v.kind, .b v.ext, .s v.desc, .s v.name, .sl (v.faces.map S1), .sl (v.fields.map TFieldDef.enc), .sl (v.inputs.map TInDef.enc), .sl (v.values.map TEnumDef.enc), .sl (v.roots.map TRoot.enc), .b v.repeat', .sl (v.dirs.map TDir.enc)] = .ret [.b (partsOk v)] := by
  have hl := def_lens v hw
  rw [def_wt] at hw
  have h1 := (sl_wt (l := v.fields) (enc := TFieldDef.enc) (n := 1048576) (by omega)).2
  have h3 := (sl_wt (l := v.values) (enc := TEnumDef.enc) (n := 1048576) (by omega)).2
  have h4 := (sl_wt (l := v.roots) (enc := TRoot.enc) (n := 1048576) (by omega)).2
  have h5 := strs_wt (l := v.faces) (n := 1048576) (by omega)
  have e1 := cf_impl_partsOk_1 fieldOk v.fields (by omega) fun x hm => by
    rw [eq_impl_partsOk_1]; simp only [E_impl_partsOk_1, zz0, zz1, zb, zi, zs, zl, impl_fieldOk x (h1 x hm), Out.bindR_ret]
  have e3 := cf_impl_partsOk_2 enumOk v.values (by omega) fun x hm => by
    rw [eq_impl_partsOk_2]; simp only [E_impl_partsOk_2, zz0, zz1, zb, zi, zs, zl, impl_enumOk x (h3 x hm), Out.bindR_ret]
  have e4 := cf_impl_partsOk_3 rootOk v.roots (by omega) fun x hm => by
    rw [eq_impl_partsOk_3]; simp only [E_impl_partsOk_3, zz0, zz1, zb, zi, zs, zl, impl_rootOk x (h4 x hm), Out.bindR_ret]
  have e5 := cf_impl_partsOk_4 nameOk v.faces (by omega) fun x hm => by
    rw [eq_impl_partsOk_4]; simp only [E_impl_partsOk_4, zz0, zz1, zb, zi, zs, zl, impl_NameOk x (h5 x hm), Out.bindR_ret]
  rw [eq_impl_partsOk]
  simp only [E_impl_partsOk, zz0, zz1, zb, zi, zs, zl, e1, impl_insOk v.inputs (by omega), e3, e4, e5, impl_constDirs v.dirs (by omega), Out.bindR_ret, partsOk]
  generalize v.fields.all fieldOk = p1
  generalize insOk v.inputs = p2
  generalize v.values.all enumOk = p3
  generalize v.roots.all rootOk = p4
  generalize v.faces.all nameOk = p5
  cases p1 <;> cases p2 <;> cases p3 <;> cases p4 <;> cases p5 <;> simp
noncomputable def dfOk (v : TDef) : Bool := (decide (1 ≤ v.kind) && decide (v.kind ≤ 8)) && (descOk v.desc && ((!v.ext || (v.desc == [] && some6 v)) && (partsOk v && (blB v.kind v.repeat' (ne v.faces) (ne v.fields) (ne v.inputs) (ne v.values) (ne v.roots) (ne v.dirs) &&
  (if (v.kind == 7) = true then nameOk v.name && (!v.ext && (ne v.faces && placesOk v.faces)) else if (v.kind == 8) = true then v.name == [] && (v.ext || ne v.roots) else nameOk v.name)))))
theorem impl_DefOk (v : TDef) (hw : wtL v.enc ≤ 1048576) : r_impl_DefOk [.i v.kind, .b v.ext, .s v.desc, .s v.name, .sl (v.faces.map S1), .sl (v.fields.map TFieldDef.enc), .sl (v.inputs.map TInDef.enc), .sl (v.values.map TEnumDef.enc), .sl (v.roots.map TRoot.enc), .b v.repeat', .sl (v.dirs.map TDir.enc)] = .ret [.b (dfOk v)] := by
  have hl := def_lens v hw
  have e1 := impl_partsOk v hw
  have e2 := impl_belongs v
  have e3 := impl_something v hw
  rw [def_wt] at hw
  have e4 := cf_impl_DefOk_1 placeOk v.faces (by omega) fun x hm => by
    rw [eq_impl_DefOk_1]; simp only [E_impl_DefOk_1, zz0, zz1, zb, zi, zs, zl, impl_PlaceOk, Out.bindR_ret]
  rw [show v.faces.all placeOk = placesOk v.faces from rfl] at e4
  have hn := impl_NameOk v.name (by omega)
  have hd := impl_descOk v.desc (by omega)
  rw [eq_impl_DefOk]
  unfold dfOk
  generalize blB v.kind v.repeat' (ne v.faces) (ne v.fields) (ne v.inputs) (ne v.values) (ne v.roots) (ne v.dirs) = bl at e2 ⊢
  rcases (zt ((decide (1 ≤ v.kind) && decide (v.kind ≤ 8)))).symm with h_0 | h_0
  rotate_left
  rcases (zt (descOk v.desc)).symm with h_1 | h_1
  rotate_left
  rcases zt v.ext with h_ext | h_ext <;> simp only [h_ext] at e1 e2 e3
  · rcases (zt (v.desc == ([] : List UInt8))).symm with h_2 | h_2
    rotate_left
    rcases (zt (some6 v)).symm with h_3 | h_3
    rotate_left
    rcases (zt (partsOk v)).symm with h_4 | h_4
    rotate_left
    rcases (zt (bl)).symm with h_5 | h_5
    rotate_left
    rcases zt (v.kind == 7) with c7 | c7
    rcases zt (nameOk v.name) with h_n | h_n <;> rcases zt (ne v.faces) with h_f | h_f <;> rcases zt (placesOk v.faces) with h_p | h_p
    rotate_left 8
    rcases zt (v.kind == 8) with c8 | c8
    rcases zt (v.name == ([] : List UInt8)) with h_n | h_n <;> rcases zt (ne v.roots) with h_r | h_r
    all_goals simp only [E_impl_DefOk, zz0, zz1, zb, zi, zs, zl, Out.andThen_norm, Out.andThenB_ret, Out.andThenB_ex, Out.andThenB_norm, len_pos, len_zero, bne, eq_self, if_true, if_false, zf, Bool.not_true, Bool.not_false, Bool.and_true, Bool.true_and, Bool.and_false, Bool.false_and, Bool.or_true, Bool.true_or, Bool.or_false, Bool.false_or, Bool.or_self, Bool.and_self, Out.bindR_ret, impl_in, *]
  · rcases (zt (partsOk v)).symm with h_4 | h_4
    rotate_left
    rcases (zt (bl)).symm with h_5 | h_5
    rotate_left
    rcases zt (v.kind == 7) with c7 | c7
    rcases zt (nameOk v.name) with h_n | h_n <;> rcases zt (ne v.faces) with h_f | h_f <;> rcases zt (placesOk v.faces) with h_p | h_p
    rotate_left 8
    rcases zt (v.kind == 8) with c8 | c8
    rcases zt (v.name == ([] : List UInt8)) with h_n | h_n <;> rcases zt (ne v.roots) with h_r | h_r
    all_goals simp only [E_impl_DefOk, zz0, zz1, zb, zi, zs, zl, Out.andThen_norm, Out.andThenB_ret, Out.andThenB_ex, Out.andThenB_norm, len_pos, len_zero, bne, eq_self, if_true, if_false, zf, Bool.not_true, Bool.not_false, Bool.and_true, Bool.true_and, Bool.and_false, Bool.false_and, Bool.or_true, Bool.true_or, Bool.or_false, Bool.false_or, Bool.or_self, Bool.and_self, Out.bindR_ret, impl_in, *]
  all_goals simp only [E_impl_DefOk, zz0, zz1, zb, zi, zs, zl, Out.andThen_norm, Out.andThenB_ret, Out.andThenB_ex, Out.andThenB_norm, len_pos, len_zero, bne, eq_self, if_true, if_false, zf, Bool.not_true, Bool.not_false, Bool.and_true, Bool.true_and, Bool.and_false, Bool.false_and, Bool.or_true, Bool.true_or, Bool.or_false, Bool.false_or, Bool.or_self, Bool.and_self, Out.bindR_ret, impl_in, *]
theorem kinds_agree (K : Int) (ext nn rep fa f i v r d pl nm : Bool) (hK : 1 ≤ K ∧ K ≤ 8) :
    (mayB K ext nn rep fa f i v r d pl && (K == 8 || nm)) = (blB K rep fa f i v r d && (if (K == 7) = true then nm && (!ext && (fa && pl)) else if (K == 8) = true then nn && (ext || r) else nm)) := by
  have : K = 1 ∨ K = 2 ∨ K = 3 ∨ K = 4 ∨ K = 5 ∨ K = 6 ∨ K = 7 ∨ K = 8 := by omega
  rcases this with rfl | rfl | rfl | rfl | rfl | rfl | rfl | rfl <;> revert ext nn rep fa f i v r d pl nm <;> decide +kernel
theorem spec_DefOk (v : TDef) (hw : wtL v.enc ≤ 1048576) : r_spec_DefOk [.i v.kind, .b v.ext, .s v.desc, .s v.name, .sl (v.faces.map S1), .sl (v.fields.map TFieldDef.enc), .sl (v.inputs.map TInDef.enc), .sl (v.values.map TEnumDef.enc), .sl (v.roots.map TRoot.enc), .b v.repeat', .sl (v.dirs.map TDir.enc)] = .ret [.b (dfOk v)] := by
  have hl := def_lens v hw
  have e2 := spec_l13May v hw
  have e3 := spec_l13Has v hw
  rw [def_wt] at hw
  have h1 := (sl_wt (l := v.fields) (enc := TFieldDef.enc) (n := 1048576) (by omega)).2
  have h3 := (sl_wt (l := v.values) (enc := TEnumDef.enc) (n := 1048576) (by omega)).2
  have h4 := (sl_wt (l := v.roots) (enc := TRoot.enc) (n := 1048576) (by omega)).2
  have h5 := strs_wt (l := v.faces) (n := 1048576) (by omega)
  have l1 : Loop E_spec_DefOkL1 [.i 0, .i v.kind, .b v.ext, .s v.desc, .s v.name, .sl (v.faces.map S1), .sl (v.fields.map TFieldDef.enc), .sl (v.inputs.map TInDef.enc), .sl (v.values.map TEnumDef.enc), .sl (v.roots.map TRoot.enc), .b v.repeat', .sl (v.dirs.map TDir.enc)] = if v.faces.all nameOk = true then .ex 0 [.i v.kind, .b v.ext, .s v.desc, .s v.name, .sl (v.faces.map S1), .sl (v.fields.map TFieldDef.enc), .sl (v.inputs.map TInDef.enc), .sl (v.values.map TEnumDef.enc), .sl (v.roots.map TRoot.enc), .b v.repeat', .sl (v.dirs.map TDir.enc)] else .ret [.b false] := by
    rw [show (0 : Int) = ((0 : Nat) : Int) from rfl, Loop_find0 (l := v.faces) (st := fun i => [.i (i : Int), .i v.kind, .b v.ext, .s v.desc, .s v.name, .sl (v.faces.map S1), .sl (v.fields.map TFieldDef.enc), .sl (v.inputs.map TInDef.enc), .sl (v.values.map TEnumDef.enc), .sl (v.roots.map TRoot.enc), .b v.repeat', .sl (v.dirs.map TDir.enc)]) (p := fun x => !nameOk x) (stop := fun i _ => .ret [.b false]) (fin := .ex 0 [.i v.kind, .b v.ext, .s v.desc, .s v.name, .sl (v.faces.map S1), .sl (v.fields.map TFieldDef.enc), .sl (v.inputs.map TInDef.enc), .sl (v.values.map TEnumDef.enc), .sl (v.roots.map TRoot.enc), .b v.repeat', .sl (v.dirs.map TDir.enc)]) (fun i hi => ?step) (fun _ _ => Out.esc_ret _) ?fin (Out.esc_ex _ _), goF_any]
    · rw [show (v.faces.any fun x => !nameOk x) = !(v.faces.all nameOk) by rw [List.not_all_eq_any_not]]
      cases v.faces.all nameOk <;> simp
    case step =>
      have hx := spec_NameOk v.faces[i] (h5 _ (List.getElem_mem hi))
      have c2 : 0 ≤ (i : Int) ∧ (i : Int) < (v.faces.length : Int) := by omega
      have d : decide ((i : Int) < (v.faces.length : Int)) = true := decide_eq_true (by omega)
      simp only [E_spec_DefOkL1, zz0, zz1, zb, zi, zs, zl, Int.toNat_natCast, zm, map_getD hi, d, c2, S1, hx, Out.bindR_ret, true_and, and_self, if_true, decide_true]
      rcases zt (nameOk v.faces[i]) with q | q <;> simp [q, wrap_succ hi (show v.faces.length ≤ 9223372036854775807 by omega)]
    case fin => simp [E_spec_DefOkL1]
  have l2 : Loop E_spec_DefOkL2 [.i 0, .i v.kind, .b v.ext, .s v.desc, .s v.name, .sl (v.faces.map S1), .sl (v.fields.map TFieldDef.enc), .sl (v.inputs.map TInDef.enc), .sl (v.values.map TEnumDef.enc), .sl (v.roots.map TRoot.enc), .b v.repeat', .sl (v.dirs.map TDir.enc)] = if v.fields.all fieldOk = true then .ex 2 [.i v.kind, .b v.ext, .s v.desc, .s v.name, .sl (v.faces.map S1), .sl (v.fields.map TFieldDef.enc), .sl (v.inputs.map TInDef.enc), .sl (v.values.map TEnumDef.enc), .sl (v.roots.map TRoot.enc), .b v.repeat', .sl (v.dirs.map TDir.enc)] else .ret [.b false] := by
    rw [show (0 : Int) = ((0 : Nat) : Int) from rfl, Loop_find0 (l := v.fields) (st := fun i => [.i (i : Int), .i v.kind, .b v.ext, .s v.desc, .s v.name, .sl (v.faces.map S1), .sl (v.fields.map TFieldDef.enc), .sl (v.inputs.map TInDef.enc), .sl (v.values.map TEnumDef.enc), .sl (v.roots.map TRoot.enc), .b v.repeat', .sl (v.dirs.map TDir.enc)]) (p := fun x => !fieldOk x) (stop := fun i _ => .ret [.b false]) (fin := .ex 2 [.i v.kind, .b v.ext, .s v.desc, .s v.name, .sl (v.faces.map S1), .sl (v.fields.map TFieldDef.enc), .sl (v.inputs.map TInDef.enc), .sl (v.values.map TEnumDef.enc), .sl (v.roots.map TRoot.enc), .b v.repeat', .sl (v.dirs.map TDir.enc)]) (fun i hi => ?step) (fun _ _ => Out.esc_ret _) ?fin (Out.esc_ex _ _), goF_any]
    · rw [show (v.fields.any fun x => !fieldOk x) = !(v.fields.all fieldOk) by rw [List.not_all_eq_any_not]]
      cases v.fields.all fieldOk <;> simp
    case step =>
      have hx := spec_l13Field v.fields[i] (h1 _ (List.getElem_mem hi))
      have c2 : 0 ≤ (i : Int) ∧ (i : Int) < (v.fields.length : Int) := by omega
      have d : decide ((i : Int) < (v.fields.length : Int)) = true := decide_eq_true (by omega)
      simp only [E_spec_DefOkL2, zz0, zz1, zb, zi, zs, zl, Int.toNat_natCast, zm, map_getD hi, d, c2, TFieldDef.enc_eq, hx, Out.bindR_ret, true_and, and_self, if_true, decide_true]
      rcases zt (fieldOk v.fields[i]) with q | q <;> simp [q, wrap_succ hi (show v.fields.length ≤ 9223372036854775807 by omega)]
    case fin => simp [E_spec_DefOkL2]
  have l3 : Loop E_spec_DefOkL3 [.i 0, .i v.kind, .b v.ext, .s v.desc, .s v.name, .sl (v.faces.map S1), .sl (v.fields.map TFieldDef.enc), .sl (v.inputs.map TInDef.enc), .sl (v.values.map TEnumDef.enc), .sl (v.roots.map TRoot.enc), .b v.repeat', .sl (v.dirs.map TDir.enc)] = if v.values.all enumOk = true then .ex 4 [.i v.kind, .b v.ext, .s v.desc, .s v.name, .sl (v.faces.map S1), .sl (v.fields.map TFieldDef.enc), .sl (v.inputs.map TInDef.enc), .sl (v.values.map TEnumDef.enc), .sl (v.roots.map TRoot.enc), .b v.repeat', .sl (v.dirs.map TDir.enc)] else .ret [.b false] := by
    rw [show (0 : Int) = ((0 : Nat) : Int) from rfl, Loop_find0 (l := v.values) (st := fun i => [.i (i : Int), .i v.kind, .b v.ext, .s v.desc, .s v.name, .sl (v.faces.map S1), .sl (v.fields.map TFieldDef.enc), .sl (v.inputs.map TInDef.enc), .sl (v.values.map TEnumDef.enc), .sl (v.roots.map TRoot.enc), .b v.repeat', .sl (v.dirs.map TDir.enc)]) (p := fun x => !enumOk x) (stop := fun i _ => .ret [.b false]) (fin := .ex 4 [.i v.kind, .b v.ext, .s v.desc, .s v.name, .sl (v.faces.map S1), .sl (v.fields.map TFieldDef.enc), .sl (v.inputs.map TInDef.enc), .sl (v.values.map TEnumDef.enc), .sl (v.roots.map TRoot.enc), .b v.repeat', .sl (v.dirs.map TDir.enc)]) (fun i hi => ?step) (fun _ _ => Out.esc_ret _) ?fin (Out.esc_ex _ _), goF_any]
    · rw [show (v.values.any fun x => !enumOk x) = !(v.values.all enumOk) by rw [List.not_all_eq_any_not]]
      cases v.values.all enumOk <;> simp
    case step =>
      have hw3 := h3 _ (List.getElem_mem hi)
      rw [enum_wt] at hw3
      have x1 := spec_NameOk v.values[i].name (by omega)
      have x2 := spec_l13Desc v.values[i].desc (by omega)
      have x3 := spec_l12Consts v.values[i].dirs (by omega)
      have c2 : 0 ≤ (i : Int) ∧ (i : Int) < (v.values.length : Int) := by omega
      have d : decide ((i : Int) < (v.values.length : Int)) = true := decide_eq_true (by omega)
      simp only [E_spec_DefOkL3, zz0, zz1, zb, zi, zs, zl, Int.toNat_natCast, zm, map_getD hi, d, c2, TEnumDef.enc_eq, x1, spec_Word, x2, x3, Out.bindR_ret, true_and, and_self, if_true, decide_true]
      unfold enumOk
      rcases zt (nameOk v.values[i].name) with a1 | a1 <;> rcases zt (word v.values[i].name) with a2 | a2 <;> rcases zt (descOk v.values[i].desc) with a3 | a3 <;> rcases zt (constsOk v.values[i].dirs) with a4 | a4 <;> simp [a1, a2, a3, a4, wrap_succ hi (show v.values.length ≤ 9223372036854775807 by omega)]
    case fin => simp [E_spec_DefOkL3]
  have l4 : Loop E_spec_DefOkL4 [.i 0, .i v.kind, .b v.ext, .s v.desc, .s v.name, .sl (v.faces.map S1), .sl (v.fields.map TFieldDef.enc), .sl (v.inputs.map TInDef.enc), .sl (v.values.map TEnumDef.enc), .sl (v.roots.map TRoot.enc), .b v.repeat', .sl (v.dirs.map TDir.enc)] = if v.roots.all rootOk = true then .ex 6 [] else .ret [.b false] := by
    rw [show (0 : Int) = ((0 : Nat) : Int) from rfl, Loop_find0 (l := v.roots) (st := fun i => [.i (i : Int), .i v.kind, .b v.ext, .s v.desc, .s v.name, .sl (v.faces.map S1), .sl (v.fields.map TFieldDef.enc), .sl (v.inputs.map TInDef.enc), .sl (v.values.map TEnumDef.enc), .sl (v.roots.map TRoot.enc), .b v.repeat', .sl (v.dirs.map TDir.enc)]) (p := fun x => !rootOk x) (stop := fun i _ => .ret [.b false]) (fin := .ex 6 []) (fun i hi => ?step) (fun _ _ => Out.esc_ret _) ?fin (Out.esc_ex _ _), goF_any]
    · rw [show (v.roots.any fun x => !rootOk x) = !(v.roots.all rootOk) by rw [List.not_all_eq_any_not]]
      cases v.roots.all rootOk <;> simp
    case step =>
      have hw3 := h4 _ (List.getElem_mem hi)
      rw [root_wt] at hw3
      have x1 := spec_NameOk v.roots[i].type' (by omega)
      have c2 : 0 ≤ (i : Int) ∧ (i : Int) < (v.roots.length : Int) := by omega
      have d : decide ((i : Int) < (v.roots.length : Int)) = true := decide_eq_true (by omega)
      simp only [E_spec_DefOkL4, zz0, zz1, zb, zi, zs, zl, Int.toNat_natCast, zm, map_getD hi, d, c2, TRoot.enc_eq, spec_OpWord, word_nil, x1, Out.bindR_ret, true_and, and_self, if_true, decide_true]
      unfold rootOk kind3
      rcases zt (v.roots[i].kind == 1 || (v.roots[i].kind == 2 || v.roots[i].kind == 3)) with a1 | a1 <;> rcases zt (nameOk v.roots[i].type') with a2 | a2 <;> simp only [a1, a2] <;> simp [wrap_succ hi (show v.roots.length ≤ 9223372036854775807 by omega)]
    case fin => simp [E_spec_DefOkL4]
  have hN := spec_NameOk v.name (by omega)
  have hI := spec_l13Ins v.inputs (by omega)
  have hC := spec_l12Consts v.dirs (by omega)
  have hd := spec_l13Desc v.desc (by omega)
  rw [eq_spec_DefOk]
  unfold dfOk
  rcases (zt (decide (1 ≤ v.kind) && decide (v.kind ≤ 8))).symm with h_0 | h_0
  · simp only [E_spec_DefOk, zz0, zz1, zb, zi, zs, zl, Out.andThen_norm, Out.andThenB_ret, Out.andThenB_ex, Out.andThenB_norm, len_pos, len_zero, bne, eq_self, if_true, if_false, zf, Bool.not_true, Bool.not_false, Bool.and_true, Bool.true_and, Bool.and_false, Bool.false_and, Bool.or_true, Bool.true_or, Bool.or_false, Bool.false_or, Bool.or_self, Bool.and_self, Out.bindR_ret, spec_l01In, h_0]
  have hK : 1 ≤ v.kind ∧ v.kind ≤ 8 := by
    rw [← Bool.decide_and] at h_0
    exact of_decide_eq_true h_0
  rw [← kinds_agree v.kind v.ext (v.name == []) v.repeat' (ne v.faces) (ne v.fields) (ne v.inputs) (ne v.values) (ne v.roots) (ne v.dirs) (placesOk v.faces) (nameOk v.name) hK]
  clear hK
  unfold partsOk
  generalize mayB v.kind v.ext (v.name == []) v.repeat' (ne v.faces) (ne v.fields) (ne v.inputs) (ne v.values) (ne v.roots) (ne v.dirs) (placesOk v.faces) = m at *
  rcases (zt (descOk v.desc)).symm with h_1 | h_1
  rotate_left
  rcases zt v.ext with h_ext | h_ext <;> simp only [h_ext] at e2 e3 l1 l2 l3 l4
  · rcases (zt (v.desc == ([] : List UInt8))).symm with h_2 | h_2
    rotate_left
    rcases (zt (some6 v)).symm with h_3 | h_3
    rotate_left
    rcases (zt (m)).symm with h_m | h_m
    rotate_left
    rcases (zt (insOk v.inputs)).symm with h_i | h_i
    rotate_left
    rcases (zt (constsOk v.dirs)).symm with h_c | h_c
    rotate_left
    rcases zt (v.kind == 8) with c8 | c8 <;> rcases zt (nameOk v.name) with h_n | h_n <;> rcases zt (v.faces.all nameOk) with z1 | z1 <;> rcases zt (v.fields.all fieldOk) with z2 | z2 <;> rcases zt (v.values.all enumOk) with z3 | z3 <;> rcases zt (v.roots.all rootOk) with z4 | z4
    all_goals simp only [E_spec_DefOk, zz0, zz1, zb, zi, zs, zl, Out.andThen_norm, Out.andThenB_ret, Out.andThenB_ex, Out.andThenB_norm, len_pos, len_zero, bne, eq_self, if_true, if_false, zf, Bool.not_true, Bool.not_false, Bool.and_true, Bool.true_and, Bool.and_false, Bool.false_and, Bool.or_true, Bool.true_or, Bool.or_false, Bool.false_or, Bool.or_self, Bool.and_self, Out.bindR_ret, spec_l01In, ite_self, *]
  · rcases (zt (m)).symm with h_m | h_m
    rotate_left
    rcases (zt (insOk v.inputs)).symm with h_i | h_i
    rotate_left
    rcases (zt (constsOk v.dirs)).symm with h_c | h_c
    rotate_left
    rcases zt (v.kind == 8) with c8 | c8 <;> rcases zt (nameOk v.name) with h_n | h_n <;> rcases zt (v.faces.all nameOk) with z1 | z1 <;> rcases zt (v.fields.all fieldOk) with z2 | z2 <;> rcases zt (v.values.all enumOk) with z3 | z3 <;> rcases zt (v.roots.all rootOk) with z4 | z4
    all_goals simp only [E_spec_DefOk, zz0, zz1, zb, zi, zs, zl, Out.andThen_norm, Out.andThenB_ret, Out.andThenB_ex, Out.andThenB_norm, len_pos, len_zero, bne, eq_self, if_true, if_false, zf, Bool.not_true, Bool.not_false, Bool.and_true, Bool.true_and, Bool.and_false, Bool.false_and, Bool.or_true, Bool.true_or, Bool.or_false, Bool.false_or, Bool.or_self, Bool.and_self, Out.bindR_ret, spec_l01In, ite_self, *]
  all_goals simp only [E_spec_DefOk, zz0, zz1, zb, zi, zs, zl, Out.andThen_norm, Out.andThenB_ret, Out.andThenB_ex, Out.andThenB_norm, len_pos, len_zero, bne, eq_self, if_true, if_false, zf, Bool.not_true, Bool.not_false, Bool.and_true, Bool.true_and, Bool.and_false, Bool.false_and, Bool.or_true, Bool.true_or, Bool.or_false, Bool.false_or, Bool.or_self, Bool.and_self, Out.bindR_ret, spec_l01In, ite_self, *]
def noOpB (v : TOp) : Bool := v.kind == 0 && (v.name == [] && (!ne v.vars && (!ne v.dirs && !ne v.sels)))
def noFragB (v : TFrag) : Bool := v.name == [] && (v.on' == [] && (!ne v.dirs && !ne v.sels))
def noDefB (v : TDef) : Bool := v.kind == 0 && (!v.ext && (v.desc == [] && (v.name == [] && (!v.repeat' && !some6 v))))
theorem sum2_zero (a b : Nat) (h : a ≤ 1048576 ∧ b ≤ 1048576) : (IntKind.i64.wrap ((a : Int) + b) == 0) = (((a : Int) == 0) && ((b : Int) == 0)) := by
  rw [wrap64 (n := (a : Int) + b) (by omega) (by omega), Bool.eq_iff_iff, Bool.and_eq_true, beq_iff_eq, beq_iff_eq, beq_iff_eq]
  omega
theorem sum3_zero (a b c : Nat) (h : a ≤ 1048576 ∧ b ≤ 1048576 ∧ c ≤ 1048576) : (IntKind.i64.wrap (IntKind.i64.wrap ((a : Int) + b) + c) == 0) = (((a : Int) == 0) && (((b : Int) == 0) && ((c : Int) == 0))) := by
  rw [wrap64 (n := (a : Int) + b) (by omega) (by omega), wrap64 (n := (a : Int) + b + c) (by omega) (by omega), Bool.eq_iff_iff, Bool.and_eq_true, Bool.and_eq_true, beq_iff_eq, beq_iff_eq, beq_iff_eq, beq_iff_eq]
  omega
theorem frag_wt (v : TFrag) : wtL v.enc = v.name.length + v.on'.length + DC.wt (.sl (v.dirs.map TDir.enc)) + DC.wt (.sl (v.sels.map TSel.enc)) := by
  rw [TFrag.enc_eq]
  simp only [wtL]
  simp only [DC.wt]
  omega
theorem spec_l14NoOp (v : TOp) (hw : wtL v.enc ≤ 1048576) : r_spec_l14NoOp [.i v.kind, .s v.name, .sl (v.vars.map TVarDef.enc), .sl (v.dirs.map TDir.enc), .sl (v.sels.map TSel.enc)] = .ret [.b (noOpB v)] := by
  rw [op_wt] at hw
  simp only [DC.wt, zm] at hw
  rw [eq_spec_l14NoOp]
  simp only [E_spec_l14NoOp, zz0, zz1, zb, zi, zs, zl]
  rw [sum3_zero _ _ _ (by simp only [zm]; omega)]
  simp only [len_zero, noOpB]
  generalize (v.kind == 0) = p1
  generalize (v.name == ([] : List UInt8)) = p2
  cases p1 <;> cases p2 <;> simp
theorem impl_emptyOp (v : TOp) : r_impl_emptyOp [.i v.kind, .s v.name, .sl (v.vars.map TVarDef.enc), .sl (v.dirs.map TDir.enc), .sl (v.sels.map TSel.enc)] = .ret [.b (noOpB v)] := by
  rw [eq_impl_emptyOp]
  simp only [E_impl_emptyOp, zz0, zz1, zb, zi, zs, zl, len_zero, noOpB]
  generalize (v.kind == 0) = p1
  generalize (v.name == ([] : List UInt8)) = p2
  generalize ne v.vars = p3
  generalize ne v.dirs = p4
  cases p1 <;> cases p2 <;> cases p3 <;> cases p4 <;> simp
theorem spec_l14NoFrag (v : TFrag) (hw : wtL v.enc ≤ 1048576) : r_spec_l14NoFrag [.s v.name, .s v.on', .sl (v.dirs.map TDir.enc), .sl (v.sels.map TSel.enc)] = .ret [.b (noFragB v)] := by
  rw [frag_wt] at hw
  simp only [DC.wt, zm] at hw
  rw [eq_spec_l14NoFrag]
  simp only [E_spec_l14NoFrag, zz0, zz1, zb, zi, zs, zl]
  rw [sum2_zero _ _ (by simp only [zm]; omega)]
  simp only [len_zero, noFragB]
  generalize (v.name == ([] : List UInt8)) = p1
  generalize (v.on' == ([] : List UInt8)) = p2
  cases p1 <;> cases p2 <;> simp
theorem impl_emptyFrag (v : TFrag) : r_impl_emptyFrag [.s v.name, .s v.on', .sl (v.dirs.map TDir.enc), .sl (v.sels.map TSel.enc)] = .ret [.b (noFragB v)] := by
  rw [eq_impl_emptyFrag]
  simp only [E_impl_emptyFrag, zz0, zz1, zb, zi, zs, zl, len_zero, noFragB]
  generalize (v.name == ([] : List UInt8)) = p1
  generalize (v.on' == ([] : List UInt8)) = p2
  generalize ne v.dirs = p3
  cases p1 <;> cases p2 <;> cases p3 <;> simp
theorem spec_l14NoDef (v : TDef) (hw : wtL v.enc ≤ 1048576) : r_spec_l14NoDef [.i v.kind, .b v.ext, .s v.desc, .s v.name, .sl (v.faces.map S1), .sl (v.fields.map TFieldDef.enc), .sl (v.inputs.map TInDef.enc), .sl (v.values.map TEnumDef.enc), .sl (v.roots.map TRoot.enc), .b v.repeat', .sl (v.dirs.map TDir.enc)] = .ret [.b (noDefB v)] := by
  rw [eq_spec_l14NoDef]
  simp only [E_spec_l14NoDef, zz0, zz1, zb, zi, zs, zl, spec_l13Has v hw, Out.bindR_ret, noDefB]
  generalize (v.kind == 0) = p1
  generalize v.ext = p2
  generalize (v.desc == ([] : List UInt8)) = p3
  generalize (v.name == ([] : List UInt8)) = p4
  generalize v.repeat' = p5
  cases p1 <;> cases p2 <;> cases p3 <;> cases p4 <;> cases p5 <;> simp
theorem impl_emptyDef (v : TDef) (hw : wtL v.enc ≤ 1048576) : r_impl_emptyDef [.i v.kind, .b v.ext, .s v.desc, .s v.name, .sl (v.faces.map S1), .sl (v.fields.map TFieldDef.enc), .sl (v.inputs.map TInDef.enc), .sl (v.values.map TEnumDef.enc), .sl (v.roots.map TRoot.enc), .b v.repeat', .sl (v.dirs.map TDir.enc)] = .ret [.b (noDefB v)] := by
  rw [eq_impl_emptyDef]
  simp only [E_impl_emptyDef, zz0, zz1, zb, zi, zs, zl, impl_something v hw, Out.bindR_ret, noDefB]
  generalize (v.kind == 0) = p1
  generalize v.ext = p2
  generalize (v.desc == ([] : List UInt8)) = p3
  generalize (v.name == ([] : List UInt8)) = p4
  generalize v.repeat' = p5
  cases p1 <;> cases p2 <;> cases p3 <;> cases p4 <;> cases p5 <;> simp
noncomputable def itemOk (v : TItem) : Bool := if v.kind = 1 then opOk v.op && (noFragB v.frag && noDefB v.def') else if v.kind = 2 then fragOk v.frag && (noOpB v.op && noDefB v.def') else if v.kind = 3 then dfOk v.def' && (noOpB v.op && noFragB v.frag) else false
theorem item_wt (v : TItem) : wtL v.enc = wtL v.op.enc + wtL v.frag.enc + wtL v.def'.enc := by
  rw [TItem.enc_eq, TOp.enc_eq, TFrag.enc_eq, TDef.enc_eq]
  simp only [wtL]
  simp only [DC.wt]
  omega
theorem impl_itemOk (v : TItem) (hw : wtL v.enc ≤ 1048576) : r_impl_itemOk [.i v.kind, .i v.op.kind, .s v.op.name, .sl (v.op.vars.map TVarDef.enc), .sl (v.op.dirs.map TDir.enc), .sl (v.op.sels.map TSel.enc), .s v.frag.name, .s v.frag.on', .sl (v.frag.dirs.map TDir.enc), .sl (v.frag.sels.map TSel.enc), .i v.def'.kind, .b v.def'.ext, .s v.def'.desc, .s v.def'.name, .sl (v.def'.faces.map S1), .sl (v.def'.fields.map TFieldDef.enc), .sl (v.def'.inputs.map TInDef.enc), .sl (v.def'.values.map TEnumDef.enc), .sl (v.def'.roots.map TRoot.enc), .b v.def'.repeat', .sl (v.def'.dirs.map TDir.enc)] = .ret [.b (itemOk v)] := by
  rw [item_wt] at hw
  rw [eq_impl_itemOk]
  simp only [E_impl_itemOk, zz0, zz1, zb, zi, zs, zl, impl_OpOk v.op (by omega), impl_FragOk v.frag (by omega), impl_DefOk v.def' (by omega), impl_emptyOp v.op, impl_emptyFrag v.frag, impl_emptyDef v.def' (by omega), Out.bindR_ret, itemOk]
  generalize opOk v.op = p1
  generalize fragOk v.frag = p2
  generalize dfOk v.def' = p3
  generalize noOpB v.op = p4
  generalize noFragB v.frag = p5
  generalize noDefB v.def' = p6
  by_cases k1 : v.kind = 1
  · cases p1 <;> cases p5 <;> simp [k1]
  by_cases k2 : v.kind = 2
  · cases p4 <;> cases p2 <;> simp [k2]
  by_cases k3 : v.kind = 3
  · cases p4 <;> cases p5 <;> cases p3 <;> simp [k3]
  simp [k1, k2, k3]
noncomputable def docOk (v : TDoc) : Bool := (decide (1 ≤ (v.items.length : Int)) && decide ((v.items.length : Int) ≤ 60)) && v.items.all itemOk
theorem cf_impl_DocOk_1 (ok : TItem → Bool) (l : List TItem) (hl : l.length ≤ 1048576) (hc : ∀ x ∈ l, r_impl_DocOk_1 [.i x.kind, .i x.op.kind, .s x.op.name, .sl (x.op.vars.map TVarDef.enc), .sl (x.op.dirs.map TDir.enc), .sl (x.op.sels.map TSel.enc), .s x.frag.name, .s x.frag.on', .sl (x.frag.dirs.map TDir.enc), .sl (x.frag.sels.map TSel.enc), .i x.def'.kind, .b x.def'.ext, .s x.def'.desc, .s x.def'.name, .sl (x.def'.faces.map S1), .sl (x.def'.fields.map TFieldDef.enc), .sl (x.def'.inputs.map TInDef.enc), .sl (x.def'.values.map TEnumDef.enc), .sl (x.def'.roots.map TRoot.enc), .b x.def'.repeat', .sl (x.def'.dirs.map TDir.enc)] = .ret [.b (!ok x)]) : r_slices_ContainsFunc_impl_Item__impl_DocOk_1 [.sl (l.map TItem.enc)] = .ret [.b (!(l.all ok))] := by
  rw [eq_slices_ContainsFunc_impl_Item__impl_DocOk_1]
  simp only [E_slices_ContainsFunc_impl_Item__impl_DocOk_1, zz0, zl]
  rw [eq_slices_IndexFunc_impl_Item__impl_DocOk_1]
  simp only [E_slices_IndexFunc_impl_Item__impl_DocOk_1, zz0, zl, zm]
  rw [show (0 : Int) = ((0 : Nat) : Int) from rfl, Loop_find0 (l := l) (st := fun i => [.sl (l.map TItem.enc), .i (l.length : Int), .i (i : Int)]) (p := fun n => !ok n) (stop := fun i _ => .ret [.i (i : Int)]) (fin := .ex 0 []) (fun i hi => ?step) (fun _ _ => Out.esc_ret _) ?fin (Out.esc_ex _ _), goF_idx]
  · rw [List.not_all_eq_any_not]
    cases hf : l.findIdx? fun n => !ok n with
    | none =>
      have : (l.any fun n => !ok n) = false := by
        rw [List.any_eq_false]
        intro x hx
        have := List.findIdx?_eq_none_iff.1 hf x hx
        simpa using this
      rw [this]
      simp
    | some j =>
      obtain ⟨hj, h1, h2⟩ := List.findIdx?_eq_some_iff_getElem.1 hf
      have : (l.any fun n => !ok n) = true := List.any_eq_true.2 ⟨l[j], List.getElem_mem hj, h1⟩
      rw [this]
      simp [hj]
  case step =>
    have c2 : 0 ≤ (i : Int) ∧ (i : Int) < (l.length : Int) := by omega
    have d : decide ((i : Int) < (l.length : Int)) = true := decide_eq_true (by omega)
    have he : r_impl_DocOk_1 [.i l[i].kind, .i l[i].op.kind, .s l[i].op.name, .sl (l[i].op.vars.map TVarDef.enc), .sl (l[i].op.dirs.map TDir.enc), .sl (l[i].op.sels.map TSel.enc), .s l[i].frag.name, .s l[i].frag.on', .sl (l[i].frag.dirs.map TDir.enc), .sl (l[i].frag.sels.map TSel.enc), .i l[i].def'.kind, .b l[i].def'.ext, .s l[i].def'.desc, .s l[i].def'.name, .sl (l[i].def'.faces.map S1), .sl (l[i].def'.fields.map TFieldDef.enc), .sl (l[i].def'.inputs.map TInDef.enc), .sl (l[i].def'.values.map TEnumDef.enc), .sl (l[i].def'.roots.map TRoot.enc), .b l[i].def'.repeat', .sl (l[i].def'.dirs.map TDir.enc)] = .ret [.b (!ok l[i])] := hc _ (List.getElem_mem hi)
    simp only [E_slices_IndexFunc_impl_Item__impl_DocOk_1L1, zz0, zz1, zb, zi, zs, zl, Int.toNat_natCast, zm, map_getD hi, TItem.enc_eq, d, c2, he, Out.bindR_ret, true_and, and_self, if_true]
    cases ok l[i] <;> simp [wrap_succ hi (show l.length ≤ 9223372036854775807 by omega)]
  case fin => simp [E_slices_IndexFunc_impl_Item__impl_DocOk_1L1]
theorem doc_wt (v : TDoc) : wtL v.enc = DC.wt (.sl (v.items.map TItem.enc)) := by
  rw [TDoc.enc_eq]
  simp only [wtL]
  omega
theorem impl_DocOk (v : TDoc) (hw : wtL v.enc ≤ 1048576) : r_impl_DocOk [.sl (v.items.map TItem.enc)] = .ret [.b (docOk v)] := by
  rw [doc_wt] at hw
  obtain ⟨hl, hx⟩ := sl_wt (l := v.items) (enc := TItem.enc) (n := 1048576) (by omega)
  have hc := cf_impl_DocOk_1 itemOk v.items hl fun x hm => by
    rw [eq_impl_DocOk_1]; simp only [E_impl_DocOk_1, zz0, zz1, zb, zi, zs, zl, impl_itemOk x (hx x hm), Out.bindR_ret]
  rw [eq_impl_DocOk]
  simp only [E_impl_DocOk, zz0, zz1, zb, zi, zs, zl, impl_in, zm, hc, Out.bindR_ret, docOk]
  generalize (decide (1 ≤ (v.items.length : Int)) && decide ((v.items.length : Int) ≤ 60)) = q
  cases q <;> simp
set_option maxHeartbeats 8000000 in
theorem spec_DocOk (v : TDoc) (hw : wtL v.enc ≤ 1048576) : r_spec_DocOk [.sl (v.items.map TItem.enc)] = .ret [.b (docOk v)] := by
  rw [doc_wt] at hw
  obtain ⟨hl, hx⟩ := sl_wt (l := v.items) (enc := TItem.enc) (n := 1048576) (by omega)
  have hlp : Loop E_spec_DocOkL1 [.i 0, .sl (v.items.map TItem.enc)] = if v.items.all itemOk = true then .ex 0 [] else .ret [.b false] := by
    rw [show (0 : Int) = ((0 : Nat) : Int) from rfl, Loop_find0 (l := v.items) (st := fun i => [.i (i : Int), .sl (v.items.map TItem.enc)]) (p := fun x => !itemOk x) (stop := fun i _ => .ret [.b false]) (fin := .ex 0 []) (fun i hi => ?step) (fun _ _ => Out.esc_ret _) ?fin (Out.esc_ex _ _), goF_any]
    · rw [show (v.items.any fun x => !itemOk x) = !(v.items.all itemOk) by rw [List.not_all_eq_any_not]]
      cases v.items.all itemOk <;> simp
    case step =>
      have hw3 := hx _ (List.getElem_mem hi)
      rw [item_wt] at hw3
      have x1 := spec_OpOk v.items[i].op (by omega)
      have x2 := spec_FragOk v.items[i].frag (by omega)
      have x3 := spec_DefOk v.items[i].def' (by omega)
      have x4 := spec_l14NoOp v.items[i].op (by omega)
      have x5 := spec_l14NoFrag v.items[i].frag (by omega)
      have x6 := spec_l14NoDef v.items[i].def' (by omega)
      have c2 : 0 ≤ (i : Int) ∧ (i : Int) < (v.items.length : Int) := by omega
      have d : decide ((i : Int) < (v.items.length : Int)) = true := decide_eq_true (by omega)
      simp only [E_spec_DocOkL1, zz0, zz1, zb, zi, zs, zl, Int.toNat_natCast, zm, map_getD hi, d, c2, TItem.enc_eq, x1, x2, x3, x4, x5, x6, Out.bindR_ret, true_and, and_self, if_true, decide_true]
      have wi := wrap_succ hi (show v.items.length ≤ 9223372036854775807 by omega)
      unfold itemOk
      by_cases k1 : v.items[i].kind = 1
      · rcases zt (opOk v.items[i].op) with a1 | a1 <;> rcases zt (noFragB v.items[i].frag) with a2 | a2 <;> rcases zt (noDefB v.items[i].def') with a3 | a3 <;> simp [k1, a1, a2, a3, wi]
      by_cases k2 : v.items[i].kind = 2
      · rcases zt (fragOk v.items[i].frag) with a1 | a1 <;> rcases zt (noOpB v.items[i].op) with a2 | a2 <;> rcases zt (noDefB v.items[i].def') with a3 | a3 <;> simp [k2, a1, a2, a3, wi]
      by_cases k3 : v.items[i].kind = 3
      · rcases zt (dfOk v.items[i].def') with a1 | a1 <;> rcases zt (noOpB v.items[i].op) with a2 | a2 <;> rcases zt (noFragB v.items[i].frag) with a3 | a3 <;> simp [k3, a1, a2, a3, wi]
      simp [k1, k2, k3]
    case fin => simp [E_spec_DocOkL1]
  rw [eq_spec_DocOk]
  simp only [E_spec_DocOk, zz0, zz1, zb, zi, zs, zl, len_zero, zm]
  unfold docOk
  generalize v.items.all itemOk = q at *
  cases he : v.items with
  | nil => simp [ne]
  | cons a l =>
    rw [← he]
    have hne : ne v.items = true := by rw [he]; rfl
    have h1 : decide (1 ≤ (v.items.length : Int)) = true := decide_eq_true (by rw [he, List.length_cons]; omega)
    have h0 : ((v.items.length : Int) == 0) = false := beq_eq_false_iff_ne.2 (by rw [he, List.length_cons]; omega)
    rw [h0, h1]
    simp only [zf, if_false, Out.andThen_norm, zz0, zz1, zb, zi, zs, zl, Bool.true_and]
    by_cases h60 : (v.items.length : Int) ≤ 60
    · have e1 : decide ((v.items.length : Int) > 60) = false := decide_eq_false (by omega)
      simp only [e1, decide_eq_true h60, Bool.not_true, zf, if_false, Out.andThen_norm, zz0, zz1, zb, zi, zs, zl, hlp]
      cases q <;> simp
    · have e1 : decide ((v.items.length : Int) > 60) = true := decide_eq_true (by omega)
      simp [e1, h60]
theorem szS_String (ns : List (List UInt8)) (ok : (DC.sl (ns.map S1)).ok) (left : Int) (h0 : 0 ≤ left) (h1 : left ≤ 1048576) : r_laws_szStringS [.sl (ns.map S1), .i left] = .ret [.i (szR left (DC.wt (.sl (ns.map S1))))] := by
  rw [DC.ok, zm] at ok
  obtain ⟨hl, ok⟩ := ok
  rw [eq_laws_szStringS]
  simp only [E_laws_szStringS, zz0, zz1, zb, zi, zs, zl]
  refine szS_all hl (fun i hi left h0 h1 => ?_) (fun left => ?_) h0 h1
  · have hn := okV_mem ok (S1 ns[i]) (List.mem_map_of_mem (List.getElem_mem hi))
    simp only [S1, okL, DC.ok] at hn
    have hw : IntKind.i64.wrap (left - (ns[i].length : Int)) = left - (ns[i].length : Int) := wrap64 (by omega) (by omega)
    have hc1 : (i : Int) < (ns.length : Int) := by omega
    simp only [E_laws_szStringSL1, zz0, zz1, zb, zi, zs, zl, Int.toNat_natCast, zm, map_getD hi, S1, wtL, DC.wt, hw]
    by_cases hc : left < (ns[i].length : Int)
    · simp [hi, hc1, hc, show left - (ns[i].length : Int) < 0 by omega]
    · simp [hi, hc1, hc, show ¬ left - (ns[i].length : Int) < 0 by omega, wrap_succ hi hl]
  · simp [E_laws_szStringSL1]
theorem toS_String (ns : List (List UInt8)) (hl : ns.length ≤ 1048576) : r_laws_toStringS [.sl (ns.map S1)] = .ret [.sl (ns.map S1)] := by
  rw [eq_laws_toStringS]
  simp only [E_laws_toStringS, zz0, zz1, zb, zi, zs, zl]
  rw [if_pos ⟨by omega, by rw [zm]; exact lim_of hl, trivial, by omega, by omega⟩, Int.toNat_natCast, zm, show (0 : Int) = ((0 : Nat) : Int) from rfl, toS_loop hl (fun i hi cur h1 h2 => ?_) (fun cur => ?_)]
  · rfl
  · have hc1 : (i : Int) < (ns.length : Int) := by omega
    simp only [E_laws_toStringSL1, zz0, zz1, zb, zi, zs, zl, Int.toNat_natCast, zm, map_getD hi, h1, h2, S1]
    simp [hi, hc1, wrap_succ hi (show ns.length ≤ 9223372036854775807 by omega), setRunD]
  · simp [E_laws_toStringSL1]
theorem eqS_String (ns : List (List UInt8)) (hl : ns.length ≤ 1048576) : r_laws_eqStringS [.sl (ns.map S1), .sl (ns.map S1)] = .ret [.b true] := by
  rw [eq_laws_eqStringS]
  simp only [E_laws_eqStringS, zz0, zz1, zb, zi, zs, zl]
  refine eqS_all (fun i hi => ?_) ?_
  · rw [zm] at hi
    have hc1 : (i : Int) < (ns.length : Int) := by omega
    simp only [E_laws_eqStringSL1, zz0, zz1, zb, zi, zs, zl, Int.toNat_natCast, zm, map_getD hi, S1]
    simp [hi, hc1, wrap_succ hi (show ns.length ≤ 9223372036854775807 by omega)]
  · simp [E_laws_eqStringSL1]
theorem wsum_Value (v : TValue) : wtL (TValue.enc v) = v.text.length + DC.wt (.sl (v.items.map TValue.enc)) + DC.wt (.sl (v.names.map S1)) := by
  simp only [TValue.enc_eq, wtL, DC.wt]
  try omega
theorem szS_Value' (vs : List TValue) (hs : ∀ v ∈ vs, okL (TValue.enc v) → ∀ left : Int, 0 ≤ left → left ≤ 1048576 → r_laws_szValue [.i v.kind, .s v.text, .sl (v.items.map TValue.enc), .sl (v.names.map S1), .i left] = .ret [.i (szR left (wtL (TValue.enc v)))]) (ok : (DC.sl (vs.map TValue.enc)).ok) (left : Int) (h0 : 0 ≤ left) (h1 : left ≤ 1048576) : r_laws_szValueS [.sl (vs.map TValue.enc), .i left] = .ret [.i (szR left (DC.wt (.sl (vs.map TValue.enc))))] := by
  rw [DC.ok, zm] at ok
  obtain ⟨hl, ok⟩ := ok
  rw [eq_laws_szValueS]
  simp only [E_laws_szValueS, zz0, zz1, zb, zi, zs, zl]
  refine szS_all hl (fun i hi left h0 h1 => ?_) (fun left => ?_) h0 h1
  · have key := hs vs[i] (List.getElem_mem hi) (okV_mem ok _ (List.mem_map_of_mem (List.getElem_mem hi))) left h0 h1
    generalize wtL (TValue.enc vs[i]) = w at key ⊢
    have hc1 : (i : Int) < (vs.length : Int) := by omega
    simp only [E_laws_szValueSL1, zz0, zz1, zb, zi, zs, zl, Int.toNat_natCast, zm, map_getD hi, TValue.enc_eq, key, Out.bindR_ret]
    by_cases hc : left < (w : Int)
    · simp [hi, hc1, hc, szR_lt hc]
    · simp [hi, hc1, hc, szR_ge hc, show ¬ left - (w : Int) < 0 by omega, wrap_succ hi hl]
  · simp [E_laws_szValueSL1]
theorem sz_Value (v : TValue) : okL (TValue.enc v) → ∀ left : Int, 0 ≤ left → left ≤ 1048576 → r_laws_szValue [.i v.kind, .s v.text, .sl (v.items.map TValue.enc), .sl (v.names.map S1), .i left] = .ret [.i (szR left (wtL (TValue.enc v)))] := by
  induction v using TValue.ind with | h v ih =>
  intro ok left h0 h1
  rw [TValue.enc_eq] at ok
  simp only [okL] at ok
  rw [eq_laws_szValue]
  simp only [E_laws_szValue, zz0, zz1, zb, zi, zs, zl]
  rw [wsum_Value]
  have b0 : v.text.length ≤ 9223372036854775807 := by simpa only [DC.ok] using ok.2.1
  rw [show IntKind.i64.wrap (left - (v.text.length : Int)) = left - (v.text.length : Int) from wrap64 (by omega) (by omega)]
  by_cases c0 : left < ((v.text.length : Nat) : Int)
  · have c0' : left - ((v.text.length : Nat) : Int) < 0 := by omega
    simp only [c0', decide_true, if_true]
    try rw [szR_lt (by omega)]
  have c0' : ¬ left - ((v.text.length : Nat) : Int) < 0 := by omega
  simp only [c0', decide_false, zf, if_false]
  rw [szS_Value' v.items (fun x hx => ih x hx) ok.2.2.1 ((left - ((v.text.length : Nat) : Int))) (by omega) (by omega)]
  simp only [Out.bindR_ret, zz0, zz1, zb, zi, zs, zl]
  by_cases c1 : (left - ((v.text.length : Nat) : Int)) < ((DC.wt (.sl (v.items.map TValue.enc)) : Nat) : Int)
  · rw [szR_lt c1]
    simp only [show (-1 : Int) < 0 by omega, decide_true, if_true]
    try rw [szR_lt (by omega)]
  rw [szR_ge c1]
  have c1' : ¬ (left - ((v.text.length : Nat) : Int)) - ((DC.wt (.sl (v.items.map TValue.enc)) : Nat) : Int) < 0 := by omega
  simp only [c1', decide_false, zf, if_false]
  rw [szS_String v.names ok.2.2.2.1 (((left - ((v.text.length : Nat) : Int)) - ((DC.wt (.sl (v.items.map TValue.enc)) : Nat) : Int))) (by omega) (by omega)]
  simp only [Out.bindR_ret, zz0, zz1, zb, zi, zs, zl]
  by_cases c2 : ((left - ((v.text.length : Nat) : Int)) - ((DC.wt (.sl (v.items.map TValue.enc)) : Nat) : Int)) < ((DC.wt (.sl (v.names.map S1)) : Nat) : Int)
  · rw [szR_lt c2]
    simp only [show (-1 : Int) < 0 by omega, decide_true, if_true]
    try rw [szR_lt (by omega)]
  rw [szR_ge c2]
  have c2' : ¬ ((left - ((v.text.length : Nat) : Int)) - ((DC.wt (.sl (v.items.map TValue.enc)) : Nat) : Int)) - ((DC.wt (.sl (v.names.map S1)) : Nat) : Int) < 0 := by omega
  simp only [c2', decide_false, zf, if_false]
  first
  | done
  | rw [show szR left (v.text.length + DC.wt (.sl (v.items.map TValue.enc)) + DC.wt (.sl (v.names.map S1))) = (((left - ((v.text.length : Nat) : Int)) - ((DC.wt (.sl (v.items.map TValue.enc)) : Nat) : Int)) - ((DC.wt (.sl (v.names.map S1)) : Nat) : Int)) from (szR_ge (by omega)).trans (by omega)]
theorem toS_Value' (vs : List TValue) (hs : ∀ v ∈ vs, wtL (TValue.enc v) ≤ 1048576 → r_laws_toValue [.i v.kind, .s v.text, .sl (v.items.map TValue.enc), .sl (v.names.map S1)] = .ret (TValue.enc v)) (hw : DC.wt (.sl (vs.map TValue.enc)) ≤ 1048576) : r_laws_toValueS [.sl (vs.map TValue.enc)] = .ret [.sl (vs.map TValue.enc)] := by
  rw [DC.wt, zm] at hw
  have hl : vs.length ≤ 1048576 := by omega
  rw [eq_laws_toValueS]
  simp only [E_laws_toValueS, zz0, zz1, zb, zi, zs, zl]
  rw [if_pos ⟨by omega, by rw [zm]; exact lim_of hl, trivial, by omega, by omega⟩, Int.toNat_natCast, zm, show (0 : Int) = ((0 : Nat) : Int) from rfl, toS_loop hl (fun i hi cur h1 h2 => ?_) (fun cur => ?_)]
  · rfl
  · have key := hs vs[i] (List.getElem_mem hi) (by have := wtV_mem (List.mem_map_of_mem (f := TValue.enc) (List.getElem_mem hi)); omega)
    have hc1 : (i : Int) < (vs.length : Int) := by omega
    simp only [E_laws_toValueSL1, zz0, zz1, zb, zi, zs, zl, Int.toNat_natCast, zm, map_getD hi, h1, h2, TValue.enc_eq] at key ⊢
    simp only [key, zz0, zz1, zb, zi, zs, zl, Out.bindR_ret]
    simp [hi, hc1, wrap_succ hi (show vs.length ≤ 9223372036854775807 by omega), setRunD]
  · simp [E_laws_toValueSL1]
theorem to_Value (v : TValue) : wtL (TValue.enc v) ≤ 1048576 → r_laws_toValue [.i v.kind, .s v.text, .sl (v.items.map TValue.enc), .sl (v.names.map S1)] = .ret (TValue.enc v) := by
  induction v using TValue.ind with | h v ih =>
  intro hw
  rw [wsum_Value] at hw
  rw [eq_laws_toValue]
  simp only [E_laws_toValue, zz0, zz1, zb, zi, zs, zl]
  rw [toS_Value' v.items (fun x hx => ih x hx) (by omega)]
  simp only [Out.bindR_ret, zz0, zz1, zb, zi, zs, zl]
  rw [toS_String v.names (by have h := hw; simp only [DC.wt, zm] at h; omega)]
  simp only [Out.bindR_ret, zz0, zz1, zb, zi, zs, zl]
  rw [TValue.enc_eq]
theorem eqS_Value' (vs : List TValue) (hs : ∀ v ∈ vs, wtL (TValue.enc v) ≤ 1048576 → r_laws_eqValue [.i v.kind, .s v.text, .sl (v.items.map TValue.enc), .sl (v.names.map S1), .i v.kind, .s v.text, .sl (v.items.map TValue.enc), .sl (v.names.map S1)] = .ret [.b true]) (hw : DC.wt (.sl (vs.map TValue.enc)) ≤ 1048576) : r_laws_eqValueS [.sl (vs.map TValue.enc), .sl (vs.map TValue.enc)] = .ret [.b true] := by
  rw [DC.wt, zm] at hw
  have hl : vs.length ≤ 1048576 := by omega
  rw [eq_laws_eqValueS]
  simp only [E_laws_eqValueS, zz0, zz1, zb, zi, zs, zl]
  refine eqS_all (fun i hi => ?_) ?_
  · rw [zm] at hi
    have key := hs vs[i] (List.getElem_mem hi) (by have := wtV_mem (List.mem_map_of_mem (f := TValue.enc) (List.getElem_mem hi)); omega)
    have hc1 : (i : Int) < (vs.length : Int) := by omega
    simp only [E_laws_eqValueSL1, zz0, zz1, zb, zi, zs, zl, Int.toNat_natCast, zm, map_getD hi, TValue.enc_eq] at key ⊢
    simp only [key, zz0, zz1, zb, zi, zs, zl, Out.bindR_ret]
    simp [hi, hc1, wrap_succ hi (show vs.length ≤ 9223372036854775807 by omega)]
  · simp [E_laws_eqValueSL1]
theorem eq_Value (v : TValue) : wtL (TValue.enc v) ≤ 1048576 → r_laws_eqValue [.i v.kind, .s v.text, .sl (v.items.map TValue.enc), .sl (v.names.map S1), .i v.kind, .s v.text, .sl (v.items.map TValue.enc), .sl (v.names.map S1)] = .ret [.b true] := by
  induction v using TValue.ind with | h v ih =>
  intro hw
  rw [wsum_Value] at hw
  rw [eq_laws_eqValue]
  simp only [E_laws_eqValue, zz0, zz1, zb, zi, zs, zl, bne_self_eq_false, beq_self_eq_true, Bool.not_true, zf, if_false]
  rw [eqS_Value' v.items (fun x hx => ih x hx) (by omega)]
  simp only [Out.bindR_ret, zz0, zz1, zb, zi, zs, zl, bne_self_eq_false, beq_self_eq_true, Bool.not_true, zf, if_false]
  rw [eqS_String v.names (by have h := hw; simp only [DC.wt, zm] at h; omega)]
  simp only [Out.bindR_ret, zz0, zz1, zb, zi, zs, zl, bne_self_eq_false, beq_self_eq_true, Bool.not_true, zf, if_false]
theorem wsum_Type (v : TType) : wtL (TType.enc v) = v.name.length + v.wraps.length := by
  simp only [TType.enc_eq, wtL, DC.wt]
  try omega
theorem sz_Type (v : TType) : okL (TType.enc v) → ∀ left : Int, 0 ≤ left → left ≤ 1048576 → r_laws_szType [.s v.name, .s v.wraps, .i left] = .ret [.i (szR left (wtL (TType.enc v)))] := by
  intro ok left h0 h1
  rw [TType.enc_eq] at ok
  simp only [okL] at ok
  rw [eq_laws_szType]
  simp only [E_laws_szType, zz0, zz1, zb, zi, zs, zl]
  rw [wsum_Type]
  have b0 : v.name.length ≤ 9223372036854775807 := by simpa only [DC.ok] using ok.1
  have b1 : v.wraps.length ≤ 9223372036854775807 := by simpa only [DC.ok] using ok.2.1
  rw [show IntKind.i64.wrap (left - (v.name.length : Int)) = left - (v.name.length : Int) from wrap64 (by omega) (by omega)]
  by_cases c0 : left < ((v.name.length : Nat) : Int)
  · have c0' : left - ((v.name.length : Nat) : Int) < 0 := by omega
    simp only [c0', decide_true, if_true]
    try rw [szR_lt (by omega)]
  have c0' : ¬ left - ((v.name.length : Nat) : Int) < 0 := by omega
  simp only [c0', decide_false, zf, if_false]
  rw [show IntKind.i64.wrap ((left - ((v.name.length : Nat) : Int)) - (v.wraps.length : Int)) = (left - ((v.name.length : Nat) : Int)) - (v.wraps.length : Int) from wrap64 (by omega) (by omega)]
  by_cases c1 : (left - ((v.name.length : Nat) : Int)) < ((v.wraps.length : Nat) : Int)
  · have c1' : (left - ((v.name.length : Nat) : Int)) - ((v.wraps.length : Nat) : Int) < 0 := by omega
    simp only [c1', decide_true, if_true]
    try rw [szR_lt (by omega)]
  have c1' : ¬ (left - ((v.name.length : Nat) : Int)) - ((v.wraps.length : Nat) : Int) < 0 := by omega
  simp only [c1', decide_false, zf, if_false]
  first
  | done
  | rw [show szR left (v.name.length + v.wraps.length) = ((left - ((v.name.length : Nat) : Int)) - ((v.wraps.length : Nat) : Int)) from (szR_ge (by omega)).trans (by omega)]
theorem to_Type (v : TType) : wtL (TType.enc v) ≤ 1048576 → r_laws_toType [.s v.name, .s v.wraps] = .ret (TType.enc v) := by
  intro hw
  rw [wsum_Type] at hw
  rw [eq_laws_toType]
  simp only [E_laws_toType, zz0, zz1, zb, zi, zs, zl]
  rw [TType.enc_eq]
theorem eq_Type (v : TType) : wtL (TType.enc v) ≤ 1048576 → r_laws_eqType [.s v.name, .s v.wraps, .s v.name, .s v.wraps] = .ret [.b true] := by
  intro hw
  rw [wsum_Type] at hw
  rw [eq_laws_eqType]
  simp only [E_laws_eqType, zz0, zz1, zb, zi, zs, zl, bne_self_eq_false, beq_self_eq_true, Bool.not_true, zf, if_false]
theorem wsum_Arg (v : TArg) : wtL (TArg.enc v) = v.name.length + wtL (TValue.enc v.value) := by
  simp only [TArg.enc_eq, wtL, DC.wt, TValue.enc_eq]
  try omega
theorem sz_Arg (v : TArg) : okL (TArg.enc v) → ∀ left : Int, 0 ≤ left → left ≤ 1048576 → r_laws_szArg [.s v.name, .i v.value.kind, .s v.value.text, .sl (v.value.items.map TValue.enc), .sl (v.value.names.map S1), .i left] = .ret [.i (szR left (wtL (TArg.enc v)))] := by
  intro ok left h0 h1
  rw [TArg.enc_eq] at ok
  simp only [okL] at ok
  rw [eq_laws_szArg]
  simp only [E_laws_szArg, zz0, zz1, zb, zi, zs, zl]
  rw [wsum_Arg]
  have b0 : v.name.length ≤ 9223372036854775807 := by simpa only [DC.ok] using ok.1
  rw [show IntKind.i64.wrap (left - (v.name.length : Int)) = left - (v.name.length : Int) from wrap64 (by omega) (by omega)]
  by_cases c0 : left < ((v.name.length : Nat) : Int)
  · have c0' : left - ((v.name.length : Nat) : Int) < 0 := by omega
    simp only [c0', decide_true, if_true]
    try rw [szR_lt (by omega)]
  have c0' : ¬ left - ((v.name.length : Nat) : Int) < 0 := by omega
  simp only [c0', decide_false, zf, if_false]
  rw [sz_Value v.value (by rw [TValue.enc_eq]; simp only [okL]; exact ⟨ok.2.1, ok.2.2.1, ok.2.2.2.1, ok.2.2.2.2.1, trivial⟩) ((left - ((v.name.length : Nat) : Int))) (by omega) (by omega)]
  simp only [Out.bindR_ret, zz0, zz1, zb, zi, zs, zl]
  by_cases c1 : (left - ((v.name.length : Nat) : Int)) < ((wtL (TValue.enc v.value) : Nat) : Int)
  · rw [szR_lt c1]
    simp only [show (-1 : Int) < 0 by omega, decide_true, if_true]
    try rw [szR_lt (by omega)]
  rw [szR_ge c1]
  have c1' : ¬ (left - ((v.name.length : Nat) : Int)) - ((wtL (TValue.enc v.value) : Nat) : Int) < 0 := by omega
  simp only [c1', decide_false, zf, if_false]
  first
  | done
  | rw [show szR left (v.name.length + wtL (TValue.enc v.value)) = ((left - ((v.name.length : Nat) : Int)) - ((wtL (TValue.enc v.value) : Nat) : Int)) from (szR_ge (by omega)).trans (by omega)]
theorem szS_Arg' (vs : List TArg) (hs : ∀ v ∈ vs, okL (TArg.enc v) → ∀ left : Int, 0 ≤ left → left ≤ 1048576 → r_laws_szArg [.s v.name, .i v.value.kind, .s v.value.text, .sl (v.value.items.map TValue.enc), .sl (v.value.names.map S1), .i left] = .ret [.i (szR left (wtL (TArg.enc v)))]) (ok : (DC.sl (vs.map TArg.enc)).ok) (left : Int) (h0 : 0 ≤ left) (h1 : left ≤ 1048576) : r_laws_szArgS [.sl (vs.map TArg.enc), .i left] = .ret [.i (szR left (DC.wt (.sl (vs.map TArg.enc))))] := by
  rw [DC.ok, zm] at ok
  obtain ⟨hl, ok⟩ := ok
  rw [eq_laws_szArgS]
  simp only [E_laws_szArgS, zz0, zz1, zb, zi, zs, zl]
  refine szS_all hl (fun i hi left h0 h1 => ?_) (fun left => ?_) h0 h1
  · have key := hs vs[i] (List.getElem_mem hi) (okV_mem ok _ (List.mem_map_of_mem (List.getElem_mem hi))) left h0 h1
    generalize wtL (TArg.enc vs[i]) = w at key ⊢
    have hc1 : (i : Int) < (vs.length : Int) := by omega
    simp only [E_laws_szArgSL1, zz0, zz1, zb, zi, zs, zl, Int.toNat_natCast, zm, map_getD hi, TArg.enc_eq, key, Out.bindR_ret]
    by_cases hc : left < (w : Int)
    · simp [hi, hc1, hc, szR_lt hc]
    · simp [hi, hc1, hc, szR_ge hc, show ¬ left - (w : Int) < 0 by omega, wrap_succ hi hl]
  · simp [E_laws_szArgSL1]
theorem szS_Arg (vs : List TArg) (ok : (DC.sl (vs.map TArg.enc)).ok) (left : Int) (h0 : 0 ≤ left) (h1 : left ≤ 1048576) : r_laws_szArgS [.sl (vs.map TArg.enc), .i left] = .ret [.i (szR left (DC.wt (.sl (vs.map TArg.enc))))] := szS_Arg' vs (fun v _ => sz_Arg v) ok left h0 h1
theorem to_Arg (v : TArg) : wtL (TArg.enc v) ≤ 1048576 → r_laws_toArg [.s v.name, .i v.value.kind, .s v.value.text, .sl (v.value.items.map TValue.enc), .sl (v.value.names.map S1)] = .ret (TArg.enc v) := by
  intro hw
  rw [wsum_Arg] at hw
  rw [eq_laws_toArg]
  simp only [E_laws_toArg, zz0, zz1, zb, zi, zs, zl]
  rw [to_Value v.value (by omega)]
  simp only [Out.bindR_ret, TValue.enc_eq, zz0, zz1, zb, zi, zs, zl]
  rw [TArg.enc_eq]
theorem toS_Arg' (vs : List TArg) (hs : ∀ v ∈ vs, wtL (TArg.enc v) ≤ 1048576 → r_laws_toArg [.s v.name, .i v.value.kind, .s v.value.text, .sl (v.value.items.map TValue.enc), .sl (v.value.names.map S1)] = .ret (TArg.enc v)) (hw : DC.wt (.sl (vs.map TArg.enc)) ≤ 1048576) : r_laws_toArgS [.sl (vs.map TArg.enc)] = .ret [.sl (vs.map TArg.enc)] := by
  rw [DC.wt, zm] at hw
  have hl : vs.length ≤ 1048576 := by omega
  rw [eq_laws_toArgS]
  simp only [E_laws_toArgS, zz0, zz1, zb, zi, zs, zl]
  rw [if_pos ⟨by omega, by rw [zm]; exact lim_of hl, trivial, by omega, by omega⟩, Int.toNat_natCast, zm, show (0 : Int) = ((0 : Nat) : Int) from rfl, toS_loop hl (fun i hi cur h1 h2 => ?_) (fun cur => ?_)]
  · rfl
  · have key := hs vs[i] (List.getElem_mem hi) (by have := wtV_mem (List.mem_map_of_mem (f := TArg.enc) (List.getElem_mem hi)); omega)
    have hc1 : (i : Int) < (vs.length : Int) := by omega
    simp only [E_laws_toArgSL1, zz0, zz1, zb, zi, zs, zl, Int.toNat_natCast, zm, map_getD hi, h1, h2, TArg.enc_eq] at key ⊢
    simp only [key, zz0, zz1, zb, zi, zs, zl, Out.bindR_ret]
    simp [hi, hc1, wrap_succ hi (show vs.length ≤ 9223372036854775807 by omega), setRunD]
  · simp [E_laws_toArgSL1]
theorem toS_Arg (vs : List TArg) (hw : DC.wt (.sl (vs.map TArg.enc)) ≤ 1048576) : r_laws_toArgS [.sl (vs.map TArg.enc)] = .ret [.sl (vs.map TArg.enc)] := toS_Arg' vs (fun v _ => to_Arg v) hw
theorem eq_Arg (v : TArg) : wtL (TArg.enc v) ≤ 1048576 → r_laws_eqArg [.s v.name, .i v.value.kind, .s v.value.text, .sl (v.value.items.map TValue.enc), .sl (v.value.names.map S1), .s v.name, .i v.value.kind, .s v.value.text, .sl (v.value.items.map TValue.enc), .sl (v.value.names.map S1)] = .ret [.b true] := by
  intro hw
  rw [wsum_Arg] at hw
  rw [eq_laws_eqArg]
  simp only [E_laws_eqArg, zz0, zz1, zb, zi, zs, zl, bne_self_eq_false, beq_self_eq_true, Bool.not_true, zf, if_false]
  rw [eq_Value v.value (by omega)]
  simp only [Out.bindR_ret, zz0, zz1, zb, zi, zs, zl, bne_self_eq_false, beq_self_eq_true, Bool.not_true, zf, if_false]
theorem eqS_Arg' (vs : List TArg) (hs : ∀ v ∈ vs, wtL (TArg.enc v) ≤ 1048576 → r_laws_eqArg [.s v.name, .i v.value.kind, .s v.value.text, .sl (v.value.items.map TValue.enc), .sl (v.value.names.map S1), .s v.name, .i v.value.kind, .s v.value.text, .sl (v.value.items.map TValue.enc), .sl (v.value.names.map S1)] = .ret [.b true]) (hw : DC.wt (.sl (vs.map TArg.enc)) ≤ 1048576) : r_laws_eqArgS [.sl (vs.map TArg.enc), .sl (vs.map TArg.enc)] = .ret [.b true] := by
  rw [DC.wt, zm] at hw
  have hl : vs.length ≤ 1048576 := by omega
  rw [eq_laws_eqArgS]
  simp only [E_laws_eqArgS, zz0, zz1, zb, zi, zs, zl]
  refine eqS_all (fun i hi => ?_) ?_
  · rw [zm] at hi
    have key := hs vs[i] (List.getElem_mem hi) (by have := wtV_mem (List.mem_map_of_mem (f := TArg.enc) (List.getElem_mem hi)); omega)
    have hc1 : (i : Int) < (vs.length : Int) := by omega
    simp only [E_laws_eqArgSL1, zz0, zz1, zb, zi, zs, zl, Int.toNat_natCast, zm, map_getD hi, TArg.enc_eq] at key ⊢
    simp only [key, zz0, zz1, zb, zi, zs, zl, Out.bindR_ret]
    simp [hi, hc1, wrap_succ hi (show vs.length ≤ 9223372036854775807 by omega)]
  · simp [E_laws_eqArgSL1]
theorem eqS_Arg (vs : List TArg) (hw : DC.wt (.sl (vs.map TArg.enc)) ≤ 1048576) : r_laws_eqArgS [.sl (vs.map TArg.enc), .sl (vs.map TArg.enc)] = .ret [.b true] := eqS_Arg' vs (fun v _ => eq_Arg v) hw
theorem wsum_Dir (v : TDir) : wtL (TDir.enc v) = v.name.length + DC.wt (.sl (v.args.map TArg.enc)) := by
  simp only [TDir.enc_eq, wtL, DC.wt]
  try omega
theorem sz_Dir (v : TDir) : okL (TDir.enc v) → ∀ left : Int, 0 ≤ left → left ≤ 1048576 → r_laws_szDir [.s v.name, .sl (v.args.map TArg.enc), .i left] = .ret [.i (szR left (wtL (TDir.enc v)))] := by
  intro ok left h0 h1
  rw [TDir.enc_eq] at ok
  simp only [okL] at ok
  rw [eq_laws_szDir]
  simp only [E_laws_szDir, zz0, zz1, zb, zi, zs, zl]
  rw [wsum_Dir]
  have b0 : v.name.length ≤ 9223372036854775807 := by simpa only [DC.ok] using ok.1
  rw [show IntKind.i64.wrap (left - (v.name.length : Int)) = left - (v.name.length : Int) from wrap64 (by omega) (by omega)]
  by_cases c0 : left < ((v.name.length : Nat) : Int)
  · have c0' : left - ((v.name.length : Nat) : Int) < 0 := by omega
    simp only [c0', decide_true, if_true]
    try rw [szR_lt (by omega)]
  have c0' : ¬ left - ((v.name.length : Nat) : Int) < 0 := by omega
  simp only [c0', decide_false, zf, if_false]
  rw [szS_Arg v.args ok.2.1 ((left - ((v.name.length : Nat) : Int))) (by omega) (by omega)]
  simp only [Out.bindR_ret, zz0, zz1, zb, zi, zs, zl]
  by_cases c1 : (left - ((v.name.length : Nat) : Int)) < ((DC.wt (.sl (v.args.map TArg.enc)) : Nat) : Int)
  · rw [szR_lt c1]
    simp only [show (-1 : Int) < 0 by omega, decide_true, if_true]
    try rw [szR_lt (by omega)]
  rw [szR_ge c1]
  have c1' : ¬ (left - ((v.name.length : Nat) : Int)) - ((DC.wt (.sl (v.args.map TArg.enc)) : Nat) : Int) < 0 := by omega
  simp only [c1', decide_false, zf, if_false]
  first
  | done
  | rw [show szR left (v.name.length + DC.wt (.sl (v.args.map TArg.enc))) = ((left - ((v.name.length : Nat) : Int)) - ((DC.wt (.sl (v.args.map TArg.enc)) : Nat) : Int)) from (szR_ge (by omega)).trans (by omega)]
theorem szS_Dir' (vs : List TDir) (hs : ∀ v ∈ vs, okL (TDir.enc v) → ∀ left : Int, 0 ≤ left → left ≤ 1048576 → r_laws_szDir [.s v.name, .sl (v.args.map TArg.enc), .i left] = .ret [.i (szR left (wtL (TDir.enc v)))]) (ok : (DC.sl (vs.map TDir.enc)).ok) (left : Int) (h0 : 0 ≤ left) (h1 : left ≤ 1048576) : r_laws_szDirS [.sl (vs.map TDir.enc), .i left] = .ret [.i (szR left (DC.wt (.sl (vs.map TDir.enc))))] := by
  rw [DC.ok, zm] at ok
  obtain ⟨hl, ok⟩ := ok
  rw [eq_laws_szDirS]
  simp only [E_laws_szDirS, zz0, zz1, zb, zi, zs, zl]
  refine szS_all hl (fun i hi left h0 h1 => ?_) (fun left => ?_) h0 h1
  · have key := hs vs[i] (List.getElem_mem hi) (okV_mem ok _ (List.mem_map_of_mem (List.getElem_mem hi))) left h0 h1
    generalize wtL (TDir.enc vs[i]) = w at key ⊢
    have hc1 : (i : Int) < (vs.length : Int) := by omega
    simp only [E_laws_szDirSL1, zz0, zz1, zb, zi, zs, zl, Int.toNat_natCast, zm, map_getD hi, TDir.enc_eq, key, Out.bindR_ret]
    by_cases hc : left < (w : Int)
    · simp [hi, hc1, hc, szR_lt hc]
    · simp [hi, hc1, hc, szR_ge hc, show ¬ left - (w : Int) < 0 by omega, wrap_succ hi hl]
  · simp [E_laws_szDirSL1]
theorem szS_Dir (vs : List TDir) (ok : (DC.sl (vs.map TDir.enc)).ok) (left : Int) (h0 : 0 ≤ left) (h1 : left ≤ 1048576) : r_laws_szDirS [.sl (vs.map TDir.enc), .i left] = .ret [.i (szR left (DC.wt (.sl (vs.map TDir.enc))))] := szS_Dir' vs (fun v _ => sz_Dir v) ok left h0 h1
theorem to_Dir (v : TDir) : wtL (TDir.enc v) ≤ 1048576 → r_laws_toDir [.s v.name, .sl (v.args.map TArg.enc)] = .ret (TDir.enc v) := by
  intro hw
  rw [wsum_Dir] at hw
  rw [eq_laws_toDir]
  simp only [E_laws_toDir, zz0, zz1, zb, zi, zs, zl]
  rw [toS_Arg v.args (by omega)]
  simp only [Out.bindR_ret, zz0, zz1, zb, zi, zs, zl]
  rw [TDir.enc_eq]
theorem toS_Dir' (vs : List TDir) (hs : ∀ v ∈ vs, wtL (TDir.enc v) ≤ 1048576 → r_laws_toDir [.s v.name, .sl (v.args.map TArg.enc)] = .ret (TDir.enc v)) (hw : DC.wt (.sl (vs.map TDir.enc)) ≤ 1048576) : r_laws_toDirS [.sl (vs.map TDir.enc)] = .ret [.sl (vs.map TDir.enc)] := by
  rw [DC.wt, zm] at hw
  have hl : vs.length ≤ 1048576 := by omega
  rw [eq_laws_toDirS]
  simp only [E_laws_toDirS, zz0, zz1, zb, zi, zs, zl]
  rw [if_pos ⟨by omega, by rw [zm]; exact lim_of hl, trivial, by omega, by omega⟩, Int.toNat_natCast, zm, show (0 : Int) = ((0 : Nat) : Int) from rfl, toS_loop hl (fun i hi cur h1 h2 => ?_) (fun cur => ?_)]
  · rfl
  · have key := hs vs[i] (List.getElem_mem hi) (by have := wtV_mem (List.mem_map_of_mem (f := TDir.enc) (List.getElem_mem hi)); omega)
    have hc1 : (i : Int) < (vs.length : Int) := by omega
    simp only [E_laws_toDirSL1, zz0, zz1, zb, zi, zs, zl, Int.toNat_natCast, zm, map_getD hi, h1, h2, TDir.enc_eq] at key ⊢
    simp only [key, zz0, zz1, zb, zi, zs, zl, Out.bindR_ret]
    simp [hi, hc1, wrap_succ hi (show vs.length ≤ 9223372036854775807 by omega), setRunD]
  · simp [E_laws_toDirSL1]
theorem toS_Dir (vs : List TDir) (hw : DC.wt (.sl (vs.map TDir.enc)) ≤ 1048576) : r_laws_toDirS [.sl (vs.map TDir.enc)] = .ret [.sl (vs.map TDir.enc)] := toS_Dir' vs (fun v _ => to_Dir v) hw
theorem eq_Dir (v : TDir) : wtL (TDir.enc v) ≤ 1048576 → r_laws_eqDir [.s v.name, .sl (v.args.map TArg.enc), .s v.name, .sl (v.args.map TArg.enc)] = .ret [.b true] := by
  intro hw
  rw [wsum_Dir] at hw
  rw [eq_laws_eqDir]
  simp only [E_laws_eqDir, zz0, zz1, zb, zi, zs, zl, bne_self_eq_false, beq_self_eq_true, Bool.not_true, zf, if_false]
  rw [eqS_Arg v.args (by omega)]
  simp only [Out.bindR_ret, zz0, zz1, zb, zi, zs, zl, bne_self_eq_false, beq_self_eq_true, Bool.not_true, zf, if_false]
theorem eqS_Dir' (vs : List TDir) (hs : ∀ v ∈ vs, wtL (TDir.enc v) ≤ 1048576 → r_laws_eqDir [.s v.name, .sl (v.args.map TArg.enc), .s v.name, .sl (v.args.map TArg.enc)] = .ret [.b true]) (hw : DC.wt (.sl (vs.map TDir.enc)) ≤ 1048576) : r_laws_eqDirS [.sl (vs.map TDir.enc), .sl (vs.map TDir.enc)] = .ret [.b true] := by
  rw [DC.wt, zm] at hw
  have hl : vs.length ≤ 1048576 := by omega
  rw [eq_laws_eqDirS]
  simp only [E_laws_eqDirS, zz0, zz1, zb, zi, zs, zl]
  refine eqS_all (fun i hi => ?_) ?_
  · rw [zm] at hi
    have key := hs vs[i] (List.getElem_mem hi) (by have := wtV_mem (List.mem_map_of_mem (f := TDir.enc) (List.getElem_mem hi)); omega)
    have hc1 : (i : Int) < (vs.length : Int) := by omega
    simp only [E_laws_eqDirSL1, zz0, zz1, zb, zi, zs, zl, Int.toNat_natCast, zm, map_getD hi, TDir.enc_eq] at key ⊢
    simp only [key, zz0, zz1, zb, zi, zs, zl, Out.bindR_ret]
    simp [hi, hc1, wrap_succ hi (show vs.length ≤ 9223372036854775807 by omega)]
  · simp [E_laws_eqDirSL1]
theorem eqS_Dir (vs : List TDir) (hw : DC.wt (.sl (vs.map TDir.enc)) ≤ 1048576) : r_laws_eqDirS [.sl (vs.map TDir.enc), .sl (vs.map TDir.enc)] = .ret [.b true] := eqS_Dir' vs (fun v _ => eq_Dir v) hw
theorem wsum_Sel (v : TSel) : wtL (TSel.enc v) = v.alias.length + v.name.length + v.on'.length + DC.wt (.sl (v.args.map TArg.enc)) + DC.wt (.sl (v.dirs.map TDir.enc)) + DC.wt (.sl (v.sels.map TSel.enc)) := by
  simp only [TSel.enc_eq, wtL, DC.wt]
  try omega
theorem szS_Sel' (vs : List TSel) (hs : ∀ v ∈ vs, okL (TSel.enc v) → ∀ left : Int, 0 ≤ left → left ≤ 1048576 → r_laws_szSel [.i v.kind, .s v.alias, .s v.name, .s v.on', .sl (v.args.map TArg.enc), .sl (v.dirs.map TDir.enc), .sl (v.sels.map TSel.enc), .i left] = .ret [.i (szR left (wtL (TSel.enc v)))]) (ok : (DC.sl (vs.map TSel.enc)).ok) (left : Int) (h0 : 0 ≤ left) (h1 : left ≤ 1048576) : r_laws_szSelS [.sl (vs.map TSel.enc), .i left] = .ret [.i (szR left (DC.wt (.sl (vs.map TSel.enc))))] := by
  rw [DC.ok, zm] at ok
  obtain ⟨hl, ok⟩ := ok
  rw [eq_laws_szSelS]
  simp only [E_laws_szSelS, zz0, zz1, zb, zi, zs, zl]
  refine szS_all hl (fun i hi left h0 h1 => ?_) (fun left => ?_) h0 h1
  · have key := hs vs[i] (List.getElem_mem hi) (okV_mem ok _ (List.mem_map_of_mem (List.getElem_mem hi))) left h0 h1
    generalize wtL (TSel.enc vs[i]) = w at key ⊢
    have hc1 : (i : Int) < (vs.length : Int) := by omega
    simp only [E_laws_szSelSL1, zz0, zz1, zb, zi, zs, zl, Int.toNat_natCast, zm, map_getD hi, TSel.enc_eq, key, Out.bindR_ret]
    by_cases hc : left < (w : Int)
    · simp [hi, hc1, hc, szR_lt hc]
    · simp [hi, hc1, hc, szR_ge hc, show ¬ left - (w : Int) < 0 by omega, wrap_succ hi hl]
  · simp [E_laws_szSelSL1]
theorem sz_Sel (v : TSel) : okL (TSel.enc v) → ∀ left : Int, 0 ≤ left → left ≤ 1048576 → r_laws_szSel [.i v.kind, .s v.alias, .s v.name, .s v.on', .sl (v.args.map TArg.enc), .sl (v.dirs.map TDir.enc), .sl (v.sels.map TSel.enc), .i left] = .ret [.i (szR left (wtL (TSel.enc v)))] := by
  induction v using TSel.ind with | h v ih =>
  intro ok left h0 h1
  rw [TSel.enc_eq] at ok
  simp only [okL] at ok
  rw [eq_laws_szSel]
  simp only [E_laws_szSel, zz0, zz1, zb, zi, zs, zl]
  rw [wsum_Sel]
  have b0 : v.alias.length ≤ 9223372036854775807 := by simpa only [DC.ok] using ok.2.1
  have b1 : v.name.length ≤ 9223372036854775807 := by simpa only [DC.ok] using ok.2.2.1
  have b2 : v.on'.length ≤ 9223372036854775807 := by simpa only [DC.ok] using ok.2.2.2.1
  rw [show IntKind.i64.wrap (left - (v.alias.length : Int)) = left - (v.alias.length : Int) from wrap64 (by omega) (by omega)]
  by_cases c0 : left < ((v.alias.length : Nat) : Int)
  · have c0' : left - ((v.alias.length : Nat) : Int) < 0 := by omega
    simp only [c0', decide_true, if_true]
    try rw [szR_lt (by omega)]
  have c0' : ¬ left - ((v.alias.length : Nat) : Int) < 0 := by omega
  simp only [c0', decide_false, zf, if_false]
  rw [show IntKind.i64.wrap ((left - ((v.alias.length : Nat) : Int)) - (v.name.length : Int)) = (left - ((v.alias.length : Nat) : Int)) - (v.name.length : Int) from wrap64 (by omega) (by omega)]
  by_cases c1 : (left - ((v.alias.length : Nat) : Int)) < ((v.name.length : Nat) : Int)
  · have c1' : (left - ((v.alias.length : Nat) : Int)) - ((v.name.length : Nat) : Int) < 0 := by omega
    simp only [c1', decide_true, if_true]
    try rw [szR_lt (by omega)]
  have c1' : ¬ (left - ((v.alias.length : Nat) : Int)) - ((v.name.length : Nat) : Int) < 0 := by omega
  simp only [c1', decide_false, zf, if_false]
  rw [show IntKind.i64.wrap (((left - ((v.alias.length : Nat) : Int)) - ((v.name.length : Nat) : Int)) - (v.on'.length : Int)) = ((left - ((v.alias.length : Nat) : Int)) - ((v.name.length : Nat) : Int)) - (v.on'.length : Int) from wrap64 (by omega) (by omega)]
  by_cases c2 : ((left - ((v.alias.length : Nat) : Int)) - ((v.name.length : Nat) : Int)) < ((v.on'.length : Nat) : Int)
  · have c2' : ((left - ((v.alias.length : Nat) : Int)) - ((v.name.length : Nat) : Int)) - ((v.on'.length : Nat) : Int) < 0 := by omega
    simp only [c2', decide_true, if_true]
    try rw [szR_lt (by omega)]
  have c2' : ¬ ((left - ((v.alias.length : Nat) : Int)) - ((v.name.length : Nat) : Int)) - ((v.on'.length : Nat) : Int) < 0 := by omega
  simp only [c2', decide_false, zf, if_false]
  rw [szS_Arg v.args ok.2.2.2.2.1 ((((left - ((v.alias.length : Nat) : Int)) - ((v.name.length : Nat) : Int)) - ((v.on'.length : Nat) : Int))) (by omega) (by omega)]
  simp only [Out.bindR_ret, zz0, zz1, zb, zi, zs, zl]
  by_cases c3 : (((left - ((v.alias.length : Nat) : Int)) - ((v.name.length : Nat) : Int)) - ((v.on'.length : Nat) : Int)) < ((DC.wt (.sl (v.args.map TArg.enc)) : Nat) : Int)
  · rw [szR_lt c3]
    simp only [show (-1 : Int) < 0 by omega, decide_true, if_true]
    try rw [szR_lt (by omega)]
  rw [szR_ge c3]
  have c3' : ¬ (((left - ((v.alias.length : Nat) : Int)) - ((v.name.length : Nat) : Int)) - ((v.on'.length : Nat) : Int)) - ((DC.wt (.sl (v.args.map TArg.enc)) : Nat) : Int) < 0 := by omega
  simp only [c3', decide_false, zf, if_false]
  rw [szS_Dir v.dirs ok.2.2.2.2.2.1 (((((left - ((v.alias.length : Nat) : Int)) - ((v.name.length : Nat) : Int)) - ((v.on'.length : Nat) : Int)) - ((DC.wt (.sl (v.args.map TArg.enc)) : Nat) : Int))) (by omega) (by omega)]
  simp only [Out.bindR_ret, zz0, zz1, zb, zi, zs, zl]
  by_cases c4 : ((((left - ((v.alias.length : Nat) : Int)) - ((v.name.length : Nat) : Int)) - ((v.on'.length : Nat) : Int)) - ((DC.wt (.sl (v.args.map TArg.enc)) : Nat) : Int)) < ((DC.wt (.sl (v.dirs.map TDir.enc)) : Nat) : Int)
  · rw [szR_lt c4]
    simp only [show (-1 : Int) < 0 by omega, decide_true, if_true]
    try rw [szR_lt (by omega)]
  rw [szR_ge c4]
  have c4' : ¬ ((((left - ((v.alias.length : Nat) : Int)) - ((v.name.length : Nat) : Int)) - ((v.on'.length : Nat) : Int)) - ((DC.wt (.sl (v.args.map TArg.enc)) : Nat) : Int)) - ((DC.wt (.sl (v.dirs.map TDir.enc)) : Nat) : Int) < 0 := by omega
  simp only [c4', decide_false, zf, if_false]
  rw [szS_Sel' v.sels (fun x hx => ih x hx) ok.2.2.2.2.2.2.1 ((((((left - ((v.alias.length : Nat) : Int)) - ((v.name.length : Nat) : Int)) - ((v.on'.length : Nat) : Int)) - ((DC.wt (.sl (v.args.map TArg.enc)) : Nat) : Int)) - ((DC.wt (.sl (v.dirs.map TDir.enc)) : Nat) : Int))) (by omega) (by omega)]
  simp only [Out.bindR_ret, zz0, zz1, zb, zi, zs, zl]
  by_cases c5 : (((((left - ((v.alias.length : Nat) : Int)) - ((v.name.length : Nat) : Int)) - ((v.on'.length : Nat) : Int)) - ((DC.wt (.sl (v.args.map TArg.enc)) : Nat) : Int)) - ((DC.wt (.sl (v.dirs.map TDir.enc)) : Nat) : Int)) < ((DC.wt (.sl (v.sels.map TSel.enc)) : Nat) : Int)
  · rw [szR_lt c5]
    simp only [show (-1 : Int) < 0 by omega, decide_true, if_true]
    try rw [szR_lt (by omega)]
  rw [szR_ge c5]
  have c5' : ¬ (((((left - ((v.alias.length : Nat) : Int)) - ((v.name.length : Nat) : Int)) - ((v.on'.length : Nat) : Int)) - ((DC.wt (.sl (v.args.map TArg.enc)) : Nat) : Int)) - ((DC.wt (.sl (v.dirs.map TDir.enc)) : Nat) : Int)) - ((DC.wt (.sl (v.sels.map TSel.enc)) : Nat) : Int) < 0 := by omega
  simp only [c5', decide_false, zf, if_false]
  first
  | done
  | rw [show szR left (v.alias.length + v.name.length + v.on'.length + DC.wt (.sl (v.args.map TArg.enc)) + DC.wt (.sl (v.dirs.map TDir.enc)) + DC.wt (.sl (v.sels.map TSel.enc))) = ((((((left - ((v.alias.length : Nat) : Int)) - ((v.name.length : Nat) : Int)) - ((v.on'.length : Nat) : Int)) - ((DC.wt (.sl (v.args.map TArg.enc)) : Nat) : Int)) - ((DC.wt (.sl (v.dirs.map TDir.enc)) : Nat) : Int)) - ((DC.wt (.sl (v.sels.map TSel.enc)) : Nat) : Int)) from (szR_ge (by omega)).trans (by omega)]
theorem szS_Sel (vs : List TSel) (ok : (DC.sl (vs.map TSel.enc)).ok) (left : Int) (h0 : 0 ≤ left) (h1 : left ≤ 1048576) : r_laws_szSelS [.sl (vs.map TSel.enc), .i left] = .ret [.i (szR left (DC.wt (.sl (vs.map TSel.enc))))] := szS_Sel' vs (fun v _ => sz_Sel v) ok left h0 h1
theorem toS_Sel' (vs : List TSel) (hs : ∀ v ∈ vs, wtL (TSel.enc v) ≤ 1048576 → r_laws_toSel [.i v.kind, .s v.alias, .s v.name, .s v.on', .sl (v.args.map TArg.enc), .sl (v.dirs.map TDir.enc), .sl (v.sels.map TSel.enc)] = .ret (TSel.enc v)) (hw : DC.wt (.sl (vs.map TSel.enc)) ≤ 1048576) : r_laws_toSelS [.sl (vs.map TSel.enc)] = .ret [.sl (vs.map TSel.enc)] := by
  rw [DC.wt, zm] at hw
  have hl : vs.length ≤ 1048576 := by omega
  rw [eq_laws_toSelS]
  simp only [E_laws_toSelS, zz0, zz1, zb, zi, zs, zl]
  rw [if_pos ⟨by omega, by rw [zm]; exact lim_of hl, trivial, by omega, by omega⟩, Int.toNat_natCast, zm, show (0 : Int) = ((0 : Nat) : Int) from rfl, toS_loop hl (fun i hi cur h1 h2 => ?_) (fun cur => ?_)]
  · rfl
  · have key := hs vs[i] (List.getElem_mem hi) (by have := wtV_mem (List.mem_map_of_mem (f := TSel.enc) (List.getElem_mem hi)); omega)
    have hc1 : (i : Int) < (vs.length : Int) := by omega
    simp only [E_laws_toSelSL1, zz0, zz1, zb, zi, zs, zl, Int.toNat_natCast, zm, map_getD hi, h1, h2, TSel.enc_eq] at key ⊢
    simp only [key, zz0, zz1, zb, zi, zs, zl, Out.bindR_ret]
    simp [hi, hc1, wrap_succ hi (show vs.length ≤ 9223372036854775807 by omega), setRunD]
  · simp [E_laws_toSelSL1]
theorem to_Sel (v : TSel) : wtL (TSel.enc v) ≤ 1048576 → r_laws_toSel [.i v.kind, .s v.alias, .s v.name, .s v.on', .sl (v.args.map TArg.enc), .sl (v.dirs.map TDir.enc), .sl (v.sels.map TSel.enc)] = .ret (TSel.enc v) := by
  induction v using TSel.ind with | h v ih =>
  intro hw
  rw [wsum_Sel] at hw
  rw [eq_laws_toSel]
  simp only [E_laws_toSel, zz0, zz1, zb, zi, zs, zl]
  rw [toS_Arg v.args (by omega)]
  simp only [Out.bindR_ret, zz0, zz1, zb, zi, zs, zl]
  rw [toS_Dir v.dirs (by omega)]
  simp only [Out.bindR_ret, zz0, zz1, zb, zi, zs, zl]
  rw [toS_Sel' v.sels (fun x hx => ih x hx) (by omega)]
  simp only [Out.bindR_ret, zz0, zz1, zb, zi, zs, zl]
  rw [TSel.enc_eq]
theorem toS_Sel (vs : List TSel) (hw : DC.wt (.sl (vs.map TSel.enc)) ≤ 1048576) : r_laws_toSelS [.sl (vs.map TSel.enc)] = .ret [.sl (vs.map TSel.enc)] := toS_Sel' vs (fun v _ => to_Sel v) hw
theorem eqS_Sel' (vs : List TSel) (hs : ∀ v ∈ vs, wtL (TSel.enc v) ≤ 1048576 → r_laws_eqSel [.i v.kind, .s v.alias, .s v.name, .s v.on', .sl (v.args.map TArg.enc), .sl (v.dirs.map TDir.enc), .sl (v.sels.map TSel.enc), .i v.kind, .s v.alias, .s v.name, .s v.on', .sl (v.args.map TArg.enc), .sl (v.dirs.map TDir.enc), .sl (v.sels.map TSel.enc)] = .ret [.b true]) (hw : DC.wt (.sl (vs.map TSel.enc)) ≤ 1048576) : r_laws_eqSelS [.sl (vs.map TSel.enc), .sl (vs.map TSel.enc)] = .ret [.b true] := by
  rw [DC.wt, zm] at hw
  have hl : vs.length ≤ 1048576 := by omega
  rw [eq_laws_eqSelS]
  simp only [E_laws_eqSelS, zz0, zz1, zb, zi, zs, zl]
  refine eqS_all (fun i hi => ?_) ?_
  · rw [zm] at hi
    have key := hs vs[i] (List.getElem_mem hi) (by have := wtV_mem (List.mem_map_of_mem (f := TSel.enc) (List.getElem_mem hi)); omega)
    have hc1 : (i : Int) < (vs.length : Int) := by omega
    simp only [E_laws_eqSelSL1, zz0, zz1, zb, zi, zs, zl, Int.toNat_natCast, zm, map_getD hi, TSel.enc_eq] at key ⊢
    simp only [key, zz0, zz1, zb, zi, zs, zl, Out.bindR_ret]
    simp [hi, hc1, wrap_succ hi (show vs.length ≤ 9223372036854775807 by omega)]
  · simp [E_laws_eqSelSL1]
theorem eq_Sel (v : TSel) : wtL (TSel.enc v) ≤ 1048576 → r_laws_eqSel [.i v.kind, .s v.alias, .s v.name, .s v.on', .sl (v.args.map TArg.enc), .sl (v.dirs.map TDir.enc), .sl (v.sels.map TSel.enc), .i v.kind, .s v.alias, .s v.name, .s v.on', .sl (v.args.map TArg.enc), .sl (v.dirs.map TDir.enc), .sl (v.sels.map TSel.enc)] = .ret [.b true] := by
  induction v using TSel.ind with | h v ih =>
  intro hw
  rw [wsum_Sel] at hw
  rw [eq_laws_eqSel]
  simp only [E_laws_eqSel, zz0, zz1, zb, zi, zs, zl, bne_self_eq_false, beq_self_eq_true, Bool.not_true, zf, if_false]
  rw [eqS_Arg v.args (by omega)]
  simp only [Out.bindR_ret, zz0, zz1, zb, zi, zs, zl, bne_self_eq_false, beq_self_eq_true, Bool.not_true, zf, if_false]
  rw [eqS_Dir v.dirs (by omega)]
  simp only [Out.bindR_ret, zz0, zz1, zb, zi, zs, zl, bne_self_eq_false, beq_self_eq_true, Bool.not_true, zf, if_false]
  rw [eqS_Sel' v.sels (fun x hx => ih x hx) (by omega)]
  simp only [Out.bindR_ret, zz0, zz1, zb, zi, zs, zl, bne_self_eq_false, beq_self_eq_true, Bool.not_true, zf, if_false]
theorem eqS_Sel (vs : List TSel) (hw : DC.wt (.sl (vs.map TSel.enc)) ≤ 1048576) : r_laws_eqSelS [.sl (vs.map TSel.enc), .sl (vs.map TSel.enc)] = .ret [.b true] := eqS_Sel' vs (fun v _ => eq_Sel v) hw
theorem wsum_VarDef (v : TVarDef) : wtL (TVarDef.enc v) = v.name.length + wtL (TType.enc v.type') + wtL (TValue.enc v.default') + DC.wt (.sl (v.dirs.map TDir.enc)) := by
  simp only [TVarDef.enc_eq, wtL, DC.wt, TType.enc_eq, TValue.enc_eq]
  try omega
theorem sz_VarDef (v : TVarDef) : okL (TVarDef.enc v) → ∀ left : Int, 0 ≤ left → left ≤ 1048576 → r_laws_szVarDef [.s v.name, .s v.type'.name, .s v.type'.wraps, .b v.has', .i v.default'.kind, .s v.default'.text, .sl (v.default'.items.map TValue.enc), .sl (v.default'.names.map S1), .sl (v.dirs.map TDir.enc), .i left] = .ret [.i (szR left (wtL (TVarDef.enc v)))] := by
  intro ok left h0 h1
  rw [TVarDef.enc_eq] at ok
  simp only [okL] at ok
  rw [eq_laws_szVarDef]
  simp only [E_laws_szVarDef, zz0, zz1, zb, zi, zs, zl]
  rw [wsum_VarDef]
  have b0 : v.name.length ≤ 9223372036854775807 := by simpa only [DC.ok] using ok.1
  rw [show IntKind.i64.wrap (left - (v.name.length : Int)) = left - (v.name.length : Int) from wrap64 (by omega) (by omega)]
  by_cases c0 : left < ((v.name.length : Nat) : Int)
  · have c0' : left - ((v.name.length : Nat) : Int) < 0 := by omega
    simp only [c0', decide_true, if_true]
    try rw [szR_lt (by omega)]
  have c0' : ¬ left - ((v.name.length : Nat) : Int) < 0 := by omega
  simp only [c0', decide_false, zf, if_false]
  rw [sz_Type v.type' (by rw [TType.enc_eq]; simp only [okL]; exact ⟨ok.2.1, ok.2.2.1, trivial⟩) ((left - ((v.name.length : Nat) : Int))) (by omega) (by omega)]
  simp only [Out.bindR_ret, zz0, zz1, zb, zi, zs, zl]
  by_cases c1 : (left - ((v.name.length : Nat) : Int)) < ((wtL (TType.enc v.type') : Nat) : Int)
  · rw [szR_lt c1]
    simp only [show (-1 : Int) < 0 by omega, decide_true, if_true]
    try rw [szR_lt (by omega)]
  rw [szR_ge c1]
  have c1' : ¬ (left - ((v.name.length : Nat) : Int)) - ((wtL (TType.enc v.type') : Nat) : Int) < 0 := by omega
  simp only [c1', decide_false, zf, if_false]
  rw [sz_Value v.default' (by rw [TValue.enc_eq]; simp only [okL]; exact ⟨ok.2.2.2.2.1, ok.2.2.2.2.2.1, ok.2.2.2.2.2.2.1, ok.2.2.2.2.2.2.2.1, trivial⟩) (((left - ((v.name.length : Nat) : Int)) - ((wtL (TType.enc v.type') : Nat) : Int))) (by omega) (by omega)]
  simp only [Out.bindR_ret, zz0, zz1, zb, zi, zs, zl]
  by_cases c2 : ((left - ((v.name.length : Nat) : Int)) - ((wtL (TType.enc v.type') : Nat) : Int)) < ((wtL (TValue.enc v.default') : Nat) : Int)
  · rw [szR_lt c2]
    simp only [show (-1 : Int) < 0 by omega, decide_true, if_true]
    try rw [szR_lt (by omega)]
  rw [szR_ge c2]
  have c2' : ¬ ((left - ((v.name.length : Nat) : Int)) - ((wtL (TType.enc v.type') : Nat) : Int)) - ((wtL (TValue.enc v.default') : Nat) : Int) < 0 := by omega
  simp only [c2', decide_false, zf, if_false]
  rw [szS_Dir v.dirs ok.2.2.2.2.2.2.2.2.1 ((((left - ((v.name.length : Nat) : Int)) - ((wtL (TType.enc v.type') : Nat) : Int)) - ((wtL (TValue.enc v.default') : Nat) : Int))) (by omega) (by omega)]
  simp only [Out.bindR_ret, zz0, zz1, zb, zi, zs, zl]
  by_cases c3 : (((left - ((v.name.length : Nat) : Int)) - ((wtL (TType.enc v.type') : Nat) : Int)) - ((wtL (TValue.enc v.default') : Nat) : Int)) < ((DC.wt (.sl (v.dirs.map TDir.enc)) : Nat) : Int)
  · rw [szR_lt c3]
    simp only [show (-1 : Int) < 0 by omega, decide_true, if_true]
    try rw [szR_lt (by omega)]
  rw [szR_ge c3]
  have c3' : ¬ (((left - ((v.name.length : Nat) : Int)) - ((wtL (TType.enc v.type') : Nat) : Int)) - ((wtL (TValue.enc v.default') : Nat) : Int)) - ((DC.wt (.sl (v.dirs.map TDir.enc)) : Nat) : Int) < 0 := by omega
  simp only [c3', decide_false, zf, if_false]
  first
  | done
  | rw [show szR left (v.name.length + wtL (TType.enc v.type') + wtL (TValue.enc v.default') + DC.wt (.sl (v.dirs.map TDir.enc))) = ((((left - ((v.name.length : Nat) : Int)) - ((wtL (TType.enc v.type') : Nat) : Int)) - ((wtL (TValue.enc v.default') : Nat) : Int)) - ((DC.wt (.sl (v.dirs.map TDir.enc)) : Nat) : Int)) from (szR_ge (by omega)).trans (by omega)]
theorem szS_VarDef' (vs : List TVarDef) (hs : ∀ v ∈ vs, okL (TVarDef.enc v) → ∀ left : Int, 0 ≤ left → left ≤ 1048576 → r_laws_szVarDef [.s v.name, .s v.type'.name, .s v.type'.wraps, .b v.has', .i v.default'.kind, .s v.default'.text, .sl (v.default'.items.map TValue.enc), .sl (v.default'.names.map S1), .sl (v.dirs.map TDir.enc), .i left] = .ret [.i (szR left (wtL (TVarDef.enc v)))]) (ok : (DC.sl (vs.map TVarDef.enc)).ok) (left : Int) (h0 : 0 ≤ left) (h1 : left ≤ 1048576) : r_laws_szVarDefS [.sl (vs.map TVarDef.enc), .i left] = .ret [.i (szR left (DC.wt (.sl (vs.map TVarDef.enc))))] := by
  rw [DC.ok, zm] at ok
  obtain ⟨hl, ok⟩ := ok
  rw [eq_laws_szVarDefS]
  simp only [E_laws_szVarDefS, zz0, zz1, zb, zi, zs, zl]
  refine szS_all hl (fun i hi left h0 h1 => ?_) (fun left => ?_) h0 h1
  · have key := hs vs[i] (List.getElem_mem hi) (okV_mem ok _ (List.mem_map_of_mem (List.getElem_mem hi))) left h0 h1
    generalize wtL (TVarDef.enc vs[i]) = w at key ⊢
    have hc1 : (i : Int) < (vs.length : Int) := by omega
    simp only [E_laws_szVarDefSL1, zz0, zz1, zb, zi, zs, zl, Int.toNat_natCast, zm, map_getD hi, TVarDef.enc_eq, key, Out.bindR_ret]
    by_cases hc : left < (w : Int)
    · simp [hi, hc1, hc, szR_lt hc]
    · simp [hi, hc1, hc, szR_ge hc, show ¬ left - (w : Int) < 0 by omega, wrap_succ hi hl]
  · simp [E_laws_szVarDefSL1]
theorem szS_VarDef (vs : List TVarDef) (ok : (DC.sl (vs.map TVarDef.enc)).ok) (left : Int) (h0 : 0 ≤ left) (h1 : left ≤ 1048576) : r_laws_szVarDefS [.sl (vs.map TVarDef.enc), .i left] = .ret [.i (szR left (DC.wt (.sl (vs.map TVarDef.enc))))] := szS_VarDef' vs (fun v _ => sz_VarDef v) ok left h0 h1
theorem to_VarDef (v : TVarDef) : wtL (TVarDef.enc v) ≤ 1048576 → r_laws_toVarDef [.s v.name, .s v.type'.name, .s v.type'.wraps, .b v.has', .i v.default'.kind, .s v.default'.text, .sl (v.default'.items.map TValue.enc), .sl (v.default'.names.map S1), .sl (v.dirs.map TDir.enc)] = .ret (TVarDef.enc v) := by
  intro hw
  rw [wsum_VarDef] at hw
  rw [eq_laws_toVarDef]
  simp only [E_laws_toVarDef, zz0, zz1, zb, zi, zs, zl]
  rw [to_Type v.type' (by omega)]
  simp only [Out.bindR_ret, TType.enc_eq, zz0, zz1, zb, zi, zs, zl]
  rw [to_Value v.default' (by omega)]
  simp only [Out.bindR_ret, TValue.enc_eq, zz0, zz1, zb, zi, zs, zl]
  rw [toS_Dir v.dirs (by omega)]
  simp only [Out.bindR_ret, zz0, zz1, zb, zi, zs, zl]
  rw [TVarDef.enc_eq]
theorem toS_VarDef' (vs : List TVarDef) (hs : ∀ v ∈ vs, wtL (TVarDef.enc v) ≤ 1048576 → r_laws_toVarDef [.s v.name, .s v.type'.name, .s v.type'.wraps, .b v.has', .i v.default'.kind, .s v.default'.text, .sl (v.default'.items.map TValue.enc), .sl (v.default'.names.map S1), .sl (v.dirs.map TDir.enc)] = .ret (TVarDef.enc v)) (hw : DC.wt (.sl (vs.map TVarDef.enc)) ≤ 1048576) : r_laws_toVarDefS [.sl (vs.map TVarDef.enc)] = .ret [.sl (vs.map TVarDef.enc)] := by
  rw [DC.wt, zm] at hw
  have hl : vs.length ≤ 1048576 := by omega
  rw [eq_laws_toVarDefS]
  simp only [E_laws_toVarDefS, zz0, zz1, zb, zi, zs, zl]
  rw [if_pos ⟨by omega, by rw [zm]; exact lim_of hl, trivial, by omega, by omega⟩, Int.toNat_natCast, zm, show (0 : Int) = ((0 : Nat) : Int) from rfl, toS_loop hl (fun i hi cur h1 h2 => ?_) (fun cur => ?_)]
  · rfl
  · have key := hs vs[i] (List.getElem_mem hi) (by have := wtV_mem (List.mem_map_of_mem (f := TVarDef.enc) (List.getElem_mem hi)); omega)
    have hc1 : (i : Int) < (vs.length : Int) := by omega
    simp only [E_laws_toVarDefSL1, zz0, zz1, zb, zi, zs, zl, Int.toNat_natCast, zm, map_getD hi, h1, h2, TVarDef.enc_eq] at key ⊢
    simp only [key, zz0, zz1, zb, zi, zs, zl, Out.bindR_ret]
    simp [hi, hc1, wrap_succ hi (show vs.length ≤ 9223372036854775807 by omega), setRunD]
  · simp [E_laws_toVarDefSL1]
theorem toS_VarDef (vs : List TVarDef) (hw : DC.wt (.sl (vs.map TVarDef.enc)) ≤ 1048576) : r_laws_toVarDefS [.sl (vs.map TVarDef.enc)] = .ret [.sl (vs.map TVarDef.enc)] := toS_VarDef' vs (fun v _ => to_VarDef v) hw
theorem eq_VarDef (v : TVarDef) : wtL (TVarDef.enc v) ≤ 1048576 → r_laws_eqVarDef [.s v.name, .s v.type'.name, .s v.type'.wraps, .b v.has', .i v.default'.kind, .s v.default'.text, .sl (v.default'.items.map TValue.enc), .sl (v.default'.names.map S1), .sl (v.dirs.map TDir.enc), .s v.name, .s v.type'.name, .s v.type'.wraps, .b v.has', .i v.default'.kind, .s v.default'.text, .sl (v.default'.items.map TValue.enc), .sl (v.default'.names.map S1), .sl (v.dirs.map TDir.enc)] = .ret [.b true] := by
  intro hw
  rw [wsum_VarDef] at hw
  rw [eq_laws_eqVarDef]
  simp only [E_laws_eqVarDef, zz0, zz1, zb, zi, zs, zl, bne_self_eq_false, beq_self_eq_true, Bool.not_true, zf, if_false]
  rw [eq_Type v.type' (by omega)]
  simp only [Out.bindR_ret, zz0, zz1, zb, zi, zs, zl, bne_self_eq_false, beq_self_eq_true, Bool.not_true, zf, if_false]
  rw [eq_Value v.default' (by omega)]
  simp only [Out.bindR_ret, zz0, zz1, zb, zi, zs, zl, bne_self_eq_false, beq_self_eq_true, Bool.not_true, zf, if_false]
  rw [eqS_Dir v.dirs (by omega)]
  simp only [Out.bindR_ret, zz0, zz1, zb, zi, zs, zl, bne_self_eq_false, beq_self_eq_true, Bool.not_true, zf, if_false]
theorem eqS_VarDef' (vs : List TVarDef) (hs : ∀ v ∈ vs, wtL (TVarDef.enc v) ≤ 1048576 → r_laws_eqVarDef [.s v.name, .s v.type'.name, .s v.type'.wraps, .b v.has', .i v.default'.kind, .s v.default'.text, .sl (v.default'.items.map TValue.enc), .sl (v.default'.names.map S1), .sl (v.dirs.map TDir.enc), .s v.name, .s v.type'.name, .s v.type'.wraps, .b v.has', .i v.default'.kind, .s v.default'.text, .sl (v.default'.items.map TValue.enc), .sl (v.default'.names.map S1), .sl (v.dirs.map TDir.enc)] = .ret [.b true]) (hw : DC.wt (.sl (vs.map TVarDef.enc)) ≤ 1048576) : r_laws_eqVarDefS [.sl (vs.map TVarDef.enc), .sl (vs.map TVarDef.enc)] = .ret [.b true] := by
  rw [DC.wt, zm] at hw
  have hl : vs.length ≤ 1048576 := by omega
  rw [eq_laws_eqVarDefS]
  simp only [E_laws_eqVarDefS, zz0, zz1, zb, zi, zs, zl]
  refine eqS_all (fun i hi => ?_) ?_
  · rw [zm] at hi
    have key := hs vs[i] (List.getElem_mem hi) (by have := wtV_mem (List.mem_map_of_mem (f := TVarDef.enc) (List.getElem_mem hi)); omega)
    have hc1 : (i : Int) < (vs.length : Int) := by omega
    simp only [E_laws_eqVarDefSL1, zz0, zz1, zb, zi, zs, zl, Int.toNat_natCast, zm, map_getD hi, TVarDef.enc_eq] at key ⊢
    simp only [key, zz0, zz1, zb, zi, zs, zl, Out.bindR_ret]
    simp [hi, hc1, wrap_succ hi (show vs.length ≤ 9223372036854775807 by omega)]
  · simp [E_laws_eqVarDefSL1]
theorem eqS_VarDef (vs : List TVarDef) (hw : DC.wt (.sl (vs.map TVarDef.enc)) ≤ 1048576) : r_laws_eqVarDefS [.sl (vs.map TVarDef.enc), .sl (vs.map TVarDef.enc)] = .ret [.b true] := eqS_VarDef' vs (fun v _ => eq_VarDef v) hw
theorem wsum_Op (v : TOp) : wtL (TOp.enc v) = v.name.length + DC.wt (.sl (v.vars.map TVarDef.enc)) + DC.wt (.sl (v.dirs.map TDir.enc)) + DC.wt (.sl (v.sels.map TSel.enc)) := by
  simp only [TOp.enc_eq, wtL, DC.wt]
  try omega
theorem sz_Op (v : TOp) : okL (TOp.enc v) → ∀ left : Int, 0 ≤ left → left ≤ 1048576 → r_laws_szOp [.i v.kind, .s v.name, .sl (v.vars.map TVarDef.enc), .sl (v.dirs.map TDir.enc), .sl (v.sels.map TSel.enc), .i left] = .ret [.i (szR left (wtL (TOp.enc v)))] := by
  intro ok left h0 h1
  rw [TOp.enc_eq] at ok
  simp only [okL] at ok
  rw [eq_laws_szOp]
  simp only [E_laws_szOp, zz0, zz1, zb, zi, zs, zl]
  rw [wsum_Op]
  have b0 : v.name.length ≤ 9223372036854775807 := by simpa only [DC.ok] using ok.2.1
  rw [show IntKind.i64.wrap (left - (v.name.length : Int)) = left - (v.name.length : Int) from wrap64 (by omega) (by omega)]
  by_cases c0 : left < ((v.name.length : Nat) : Int)
  · have c0' : left - ((v.name.length : Nat) : Int) < 0 := by omega
    simp only [c0', decide_true, if_true]
    try rw [szR_lt (by omega)]
  have c0' : ¬ left - ((v.name.length : Nat) : Int) < 0 := by omega
  simp only [c0', decide_false, zf, if_false]
  rw [szS_VarDef v.vars ok.2.2.1 ((left - ((v.name.length : Nat) : Int))) (by omega) (by omega)]
  simp only [Out.bindR_ret, zz0, zz1, zb, zi, zs, zl]
  by_cases c1 : (left - ((v.name.length : Nat) : Int)) < ((DC.wt (.sl (v.vars.map TVarDef.enc)) : Nat) : Int)
  · rw [szR_lt c1]
    simp only [show (-1 : Int) < 0 by omega, decide_true, if_true]
    try rw [szR_lt (by omega)]
  rw [szR_ge c1]
  have c1' : ¬ (left - ((v.name.length : Nat) : Int)) - ((DC.wt (.sl (v.vars.map TVarDef.enc)) : Nat) : Int) < 0 := by omega
  simp only [c1', decide_false, zf, if_false]
  rw [szS_Dir v.dirs ok.2.2.2.1 (((left - ((v.name.length : Nat) : Int)) - ((DC.wt (.sl (v.vars.map TVarDef.enc)) : Nat) : Int))) (by omega) (by omega)]
  simp only [Out.bindR_ret, zz0, zz1, zb, zi, zs, zl]
  by_cases c2 : ((left - ((v.name.length : Nat) : Int)) - ((DC.wt (.sl (v.vars.map TVarDef.enc)) : Nat) : Int)) < ((DC.wt (.sl (v.dirs.map TDir.enc)) : Nat) : Int)
  · rw [szR_lt c2]
    simp only [show (-1 : Int) < 0 by omega, decide_true, if_true]
    try rw [szR_lt (by omega)]
  rw [szR_ge c2]
  have c2' : ¬ ((left - ((v.name.length : Nat) : Int)) - ((DC.wt (.sl (v.vars.map TVarDef.enc)) : Nat) : Int)) - ((DC.wt (.sl (v.dirs.map TDir.enc)) : Nat) : Int) < 0 := by omega
  simp only [c2', decide_false, zf, if_false]
  rw [szS_Sel v.sels ok.2.2.2.2.1 ((((left - ((v.name.length : Nat) : Int)) - ((DC.wt (.sl (v.vars.map TVarDef.enc)) : Nat) : Int)) - ((DC.wt (.sl (v.dirs.map TDir.enc)) : Nat) : Int))) (by omega) (by omega)]
  simp only [Out.bindR_ret, zz0, zz1, zb, zi, zs, zl]
  by_cases c3 : (((left - ((v.name.length : Nat) : Int)) - ((DC.wt (.sl (v.vars.map TVarDef.enc)) : Nat) : Int)) - ((DC.wt (.sl (v.dirs.map TDir.enc)) : Nat) : Int)) < ((DC.wt (.sl (v.sels.map TSel.enc)) : Nat) : Int)
  · rw [szR_lt c3]
    simp only [show (-1 : Int) < 0 by omega, decide_true, if_true]
    try rw [szR_lt (by omega)]
  rw [szR_ge c3]
  have c3' : ¬ (((left - ((v.name.length : Nat) : Int)) - ((DC.wt (.sl (v.vars.map TVarDef.enc)) : Nat) : Int)) - ((DC.wt (.sl (v.dirs.map TDir.enc)) : Nat) : Int)) - ((DC.wt (.sl (v.sels.map TSel.enc)) : Nat) : Int) < 0 := by omega
  simp only [c3', decide_false, zf, if_false]
  first
  | done
  | rw [show szR left (v.name.length + DC.wt (.sl (v.vars.map TVarDef.enc)) + DC.wt (.sl (v.dirs.map TDir.enc)) + DC.wt (.sl (v.sels.map TSel.enc))) = ((((left - ((v.name.length : Nat) : Int)) - ((DC.wt (.sl (v.vars.map TVarDef.enc)) : Nat) : Int)) - ((DC.wt (.sl (v.dirs.map TDir.enc)) : Nat) : Int)) - ((DC.wt (.sl (v.sels.map TSel.enc)) : Nat) : Int)) from (szR_ge (by omega)).trans (by omega)]
theorem to_Op (v : TOp) : wtL (TOp.enc v) ≤ 1048576 → r_laws_toOp [.i v.kind, .s v.name, .sl (v.vars.map TVarDef.enc), .sl (v.dirs.map TDir.enc), .sl (v.sels.map TSel.enc)] = .ret (TOp.enc v) := by
  intro hw
  rw [wsum_Op] at hw
  rw [eq_laws_toOp]
  simp only [E_laws_toOp, zz0, zz1, zb, zi, zs, zl]
  rw [toS_VarDef v.vars (by omega)]
  simp only [Out.bindR_ret, zz0, zz1, zb, zi, zs, zl]
  rw [toS_Dir v.dirs (by omega)]
  simp only [Out.bindR_ret, zz0, zz1, zb, zi, zs, zl]
  rw [toS_Sel v.sels (by omega)]
  simp only [Out.bindR_ret, zz0, zz1, zb, zi, zs, zl]
  rw [TOp.enc_eq]
theorem eq_Op (v : TOp) : wtL (TOp.enc v) ≤ 1048576 → r_laws_eqOp [.i v.kind, .s v.name, .sl (v.vars.map TVarDef.enc), .sl (v.dirs.map TDir.enc), .sl (v.sels.map TSel.enc), .i v.kind, .s v.name, .sl (v.vars.map TVarDef.enc), .sl (v.dirs.map TDir.enc), .sl (v.sels.map TSel.enc)] = .ret [.b true] := by
  intro hw
  rw [wsum_Op] at hw
  rw [eq_laws_eqOp]
  simp only [E_laws_eqOp, zz0, zz1, zb, zi, zs, zl, bne_self_eq_false, beq_self_eq_true, Bool.not_true, zf, if_false]
  rw [eqS_VarDef v.vars (by omega)]
  simp only [Out.bindR_ret, zz0, zz1, zb, zi, zs, zl, bne_self_eq_false, beq_self_eq_true, Bool.not_true, zf, if_false]
  rw [eqS_Dir v.dirs (by omega)]
  simp only [Out.bindR_ret, zz0, zz1, zb, zi, zs, zl, bne_self_eq_false, beq_self_eq_true, Bool.not_true, zf, if_false]
  rw [eqS_Sel v.sels (by omega)]
  simp only [Out.bindR_ret, zz0, zz1, zb, zi, zs, zl, bne_self_eq_false, beq_self_eq_true, Bool.not_true, zf, if_false]
theorem wsum_Frag (v : TFrag) : wtL (TFrag.enc v) = v.name.length + v.on'.length + DC.wt (.sl (v.dirs.map TDir.enc)) + DC.wt (.sl (v.sels.map TSel.enc)) := by
  simp only [TFrag.enc_eq, wtL, DC.wt]
  try omega
theorem sz_Frag (v : TFrag) : okL (TFrag.enc v) → ∀ left : Int, 0 ≤ left → left ≤ 1048576 → r_laws_szFrag [.s v.name, .s v.on', .sl (v.dirs.map TDir.enc), .sl (v.sels.map TSel.enc), .i left] = .ret [.i (szR left (wtL (TFrag.enc v)))] := by
  intro ok left h0 h1
  rw [TFrag.enc_eq] at ok
  simp only [okL] at ok
  rw [eq_laws_szFrag]
  simp only [E_laws_szFrag, zz0, zz1, zb, zi, zs, zl]
  rw [wsum_Frag]
  have b0 : v.name.length ≤ 9223372036854775807 := by simpa only [DC.ok] using ok.1
  have b1 : v.on'.length ≤ 9223372036854775807 := by simpa only [DC.ok] using ok.2.1
  rw [show IntKind.i64.wrap (left - (v.name.length : Int)) = left - (v.name.length : Int) from wrap64 (by omega) (by omega)]
  by_cases c0 : left < ((v.name.length : Nat) : Int)
  · have c0' : left - ((v.name.length : Nat) : Int) < 0 := by omega
    simp only [c0', decide_true, if_true]
    try rw [szR_lt (by omega)]
  have c0' : ¬ left - ((v.name.length : Nat) : Int) < 0 := by omega
  simp only [c0', decide_false, zf, if_false]
  rw [show IntKind.i64.wrap ((left - ((v.name.length : Nat) : Int)) - (v.on'.length : Int)) = (left - ((v.name.length : Nat) : Int)) - (v.on'.length : Int) from wrap64 (by omega) (by omega)]
  by_cases c1 : (left - ((v.name.length : Nat) : Int)) < ((v.on'.length : Nat) : Int)
  · have c1' : (left - ((v.name.length : Nat) : Int)) - ((v.on'.length : Nat) : Int) < 0 := by omega
    simp only [c1', decide_true, if_true]
    try rw [szR_lt (by omega)]
  have c1' : ¬ (left - ((v.name.length : Nat) : Int)) - ((v.on'.length : Nat) : Int) < 0 := by omega
  simp only [c1', decide_false, zf, if_false]
  rw [szS_Dir v.dirs ok.2.2.1 (((left - ((v.name.length : Nat) : Int)) - ((v.on'.length : Nat) : Int))) (by omega) (by omega)]
  simp only [Out.bindR_ret, zz0, zz1, zb, zi, zs, zl]
  by_cases c2 : ((left - ((v.name.length : Nat) : Int)) - ((v.on'.length : Nat) : Int)) < ((DC.wt (.sl (v.dirs.map TDir.enc)) : Nat) : Int)
  · rw [szR_lt c2]
    simp only [show (-1 : Int) < 0 by omega, decide_true, if_true]
    try rw [szR_lt (by omega)]
  rw [szR_ge c2]
  have c2' : ¬ ((left - ((v.name.length : Nat) : Int)) - ((v.on'.length : Nat) : Int)) - ((DC.wt (.sl (v.dirs.map TDir.enc)) : Nat) : Int) < 0 := by omega
  simp only [c2', decide_false, zf, if_false]
  rw [szS_Sel v.sels ok.2.2.2.1 ((((left - ((v.name.length : Nat) : Int)) - ((v.on'.length : Nat) : Int)) - ((DC.wt (.sl (v.dirs.map TDir.enc)) : Nat) : Int))) (by omega) (by omega)]
  simp only [Out.bindR_ret, zz0, zz1, zb, zi, zs, zl]
  by_cases c3 : (((left - ((v.name.length : Nat) : Int)) - ((v.on'.length : Nat) : Int)) - ((DC.wt (.sl (v.dirs.map TDir.enc)) : Nat) : Int)) < ((DC.wt (.sl (v.sels.map TSel.enc)) : Nat) : Int)
  · rw [szR_lt c3]
    simp only [show (-1 : Int) < 0 by omega, decide_true, if_true]
    try rw [szR_lt (by omega)]
  rw [szR_ge c3]
  have c3' : ¬ (((left - ((v.name.length : Nat) : Int)) - ((v.on'.length : Nat) : Int)) - ((DC.wt (.sl (v.dirs.map TDir.enc)) : Nat) : Int)) - ((DC.wt (.sl (v.sels.map TSel.enc)) : Nat) : Int) < 0 := by omega
  simp only [c3', decide_false, zf, if_false]
  first
  | done
  | rw [show szR left (v.name.length + v.on'.length + DC.wt (.sl (v.dirs.map TDir.enc)) + DC.wt (.sl (v.sels.map TSel.enc))) = ((((left - ((v.name.length : Nat) : Int)) - ((v.on'.length : Nat) : Int)) - ((DC.wt (.sl (v.dirs.map TDir.enc)) : Nat) : Int)) - ((DC.wt (.sl (v.sels.map TSel.enc)) : Nat) : Int)) from (szR_ge (by omega)).trans (by omega)]
theorem to_Frag (v : TFrag) : wtL (TFrag.enc v) ≤ 1048576 → r_laws_toFrag [.s v.name, .s v.on', .sl (v.dirs.map TDir.enc), .sl (v.sels.map TSel.enc)] = .ret (TFrag.enc v) := by
  intro hw
  rw [wsum_Frag] at hw
  rw [eq_laws_toFrag]
  simp only [E_laws_toFrag, zz0, zz1, zb, zi, zs, zl]
  rw [toS_Dir v.dirs (by omega)]
  simp only [Out.bindR_ret, zz0, zz1, zb, zi, zs, zl]
  rw [toS_Sel v.sels (by omega)]
  simp only [Out.bindR_ret, zz0, zz1, zb, zi, zs, zl]
  rw [TFrag.enc_eq]
theorem eq_Frag (v : TFrag) : wtL (TFrag.enc v) ≤ 1048576 → r_laws_eqFrag [.s v.name, .s v.on', .sl (v.dirs.map TDir.enc), .sl (v.sels.map TSel.enc), .s v.name, .s v.on', .sl (v.dirs.map TDir.enc), .sl (v.sels.map TSel.enc)] = .ret [.b true] := by
  intro hw
  rw [wsum_Frag] at hw
  rw [eq_laws_eqFrag]
  simp only [E_laws_eqFrag, zz0, zz1, zb, zi, zs, zl, bne_self_eq_false, beq_self_eq_true, Bool.not_true, zf, if_false]
  rw [eqS_Dir v.dirs (by omega)]
  simp only [Out.bindR_ret, zz0, zz1, zb, zi, zs, zl, bne_self_eq_false, beq_self_eq_true, Bool.not_true, zf, if_false]
  rw [eqS_Sel v.sels (by omega)]
  simp only [Out.bindR_ret, zz0, zz1, zb, zi, zs, zl, bne_self_eq_false, beq_self_eq_true, Bool.not_true, zf, if_false]
theorem wsum_InDef (v : TInDef) : wtL (TInDef.enc v) = v.name.length + v.desc.length + wtL (TType.enc v.type') + wtL (TValue.enc v.default') + DC.wt (.sl (v.dirs.map TDir.enc)) := by
  simp only [TInDef.enc_eq, wtL, DC.wt, TType.enc_eq, TValue.enc_eq]
  try omega
theorem sz_InDef (v : TInDef) : okL (TInDef.enc v) → ∀ left : Int, 0 ≤ left → left ≤ 1048576 → r_laws_szInDef [.s v.name, .s v.desc, .s v.type'.name, .s v.type'.wraps, .b v.has', .i v.default'.kind, .s v.default'.text, .sl (v.default'.items.map TValue.enc), .sl (v.default'.names.map S1), .sl (v.dirs.map TDir.enc), .i left] = .ret [.i (szR left (wtL (TInDef.enc v)))] := by
  intro ok left h0 h1
  rw [TInDef.enc_eq] at ok
  simp only [okL] at ok
  rw [eq_laws_szInDef]
  simp only [E_laws_szInDef, zz0, zz1, zb, zi, zs, zl]
  rw [wsum_InDef]
  have b0 : v.name.length ≤ 9223372036854775807 := by simpa only [DC.ok] using ok.1
  have b1 : v.desc.length ≤ 9223372036854775807 := by simpa only [DC.ok] using ok.2.1
  rw [show IntKind.i64.wrap (left - (v.name.length : Int)) = left - (v.name.length : Int) from wrap64 (by omega) (by omega)]
  by_cases c0 : left < ((v.name.length : Nat) : Int)
  · have c0' : left - ((v.name.length : Nat) : Int) < 0 := by omega
    simp only [c0', decide_true, if_true]
    try rw [szR_lt (by omega)]
  have c0' : ¬ left - ((v.name.length : Nat) : Int) < 0 := by omega
  simp only [c0', decide_false, zf, if_false]
  rw [show IntKind.i64.wrap ((left - ((v.name.length : Nat) : Int)) - (v.desc.length : Int)) = (left - ((v.name.length : Nat) : Int)) - (v.desc.length : Int) from wrap64 (by omega) (by omega)]
  by_cases c1 : (left - ((v.name.length : Nat) : Int)) < ((v.desc.length : Nat) : Int)
  · have c1' : (left - ((v.name.length : Nat) : Int)) - ((v.desc.length : Nat) : Int) < 0 := by omega
    simp only [c1', decide_true, if_true]
    try rw [szR_lt (by omega)]
  have c1' : ¬ (left - ((v.name.length : Nat) : Int)) - ((v.desc.length : Nat) : Int) < 0 := by omega
  simp only [c1', decide_false, zf, if_false]
  rw [sz_Type v.type' (by rw [TType.enc_eq]; simp only [okL]; exact ⟨ok.2.2.1, ok.2.2.2.1, trivial⟩) (((left - ((v.name.length : Nat) : Int)) - ((v.desc.length : Nat) : Int))) (by omega) (by omega)]
  simp only [Out.bindR_ret, zz0, zz1, zb, zi, zs, zl]
  by_cases c2 : ((left - ((v.name.length : Nat) : Int)) - ((v.desc.length : Nat) : Int)) < ((wtL (TType.enc v.type') : Nat) : Int)
  · rw [szR_lt c2]
    simp only [show (-1 : Int) < 0 by omega, decide_true, if_true]
    try rw [szR_lt (by omega)]
  rw [szR_ge c2]
  have c2' : ¬ ((left - ((v.name.length : Nat) : Int)) - ((v.desc.length : Nat) : Int)) - ((wtL (TType.enc v.type') : Nat) : Int) < 0 := by omega
  simp only [c2', decide_false, zf, if_false]
  rw [sz_Value v.default' (by rw [TValue.enc_eq]; simp only [okL]; exact ⟨ok.2.2.2.2.2.1, ok.2.2.2.2.2.2.1, ok.2.2.2.2.2.2.2.1, ok.2.2.2.2.2.2.2.2.1, trivial⟩) ((((left - ((v.name.length : Nat) : Int)) - ((v.desc.length : Nat) : Int)) - ((wtL (TType.enc v.type') : Nat) : Int))) (by omega) (by omega)]
  simp only [Out.bindR_ret, zz0, zz1, zb, zi, zs, zl]
  by_cases c3 : (((left - ((v.name.length : Nat) : Int)) - ((v.desc.length : Nat) : Int)) - ((wtL (TType.enc v.type') : Nat) : Int)) < ((wtL (TValue.enc v.default') : Nat) : Int)
  · rw [szR_lt c3]
    simp only [show (-1 : Int) < 0 by omega, decide_true, if_true]
    try rw [szR_lt (by omega)]
  rw [szR_ge c3]
  have c3' : ¬ (((left - ((v.name.length : Nat) : Int)) - ((v.desc.length : Nat) : Int)) - ((wtL (TType.enc v.type') : Nat) : Int)) - ((wtL (TValue.enc v.default') : Nat) : Int) < 0 := by omega
  simp only [c3', decide_false, zf, if_false]
  rw [szS_Dir v.dirs ok.2.2.2.2.2.2.2.2.2.1 (((((left - ((v.name.length : Nat) : Int)) - ((v.desc.length : Nat) : Int)) - ((wtL (TType.enc v.type') : Nat) : Int)) - ((wtL (TValue.enc v.default') : Nat) : Int))) (by omega) (by omega)]
  simp only [Out.bindR_ret, zz0, zz1, zb, zi, zs, zl]
  by_cases c4 : ((((left - ((v.name.length : Nat) : Int)) - ((v.desc.length : Nat) : Int)) - ((wtL (TType.enc v.type') : Nat) : Int)) - ((wtL (TValue.enc v.default') : Nat) : Int)) < ((DC.wt (.sl (v.dirs.map TDir.enc)) : Nat) : Int)
  · rw [szR_lt c4]
    simp only [show (-1 : Int) < 0 by omega, decide_true, if_true]
    try rw [szR_lt (by omega)]
  rw [szR_ge c4]
  have c4' : ¬ ((((left - ((v.name.length : Nat) : Int)) - ((v.desc.length : Nat) : Int)) - ((wtL (TType.enc v.type') : Nat) : Int)) - ((wtL (TValue.enc v.default') : Nat) : Int)) - ((DC.wt (.sl (v.dirs.map TDir.enc)) : Nat) : Int) < 0 := by omega
  simp only [c4', decide_false, zf, if_false]
  first
  | done
  | rw [show szR left (v.name.length + v.desc.length + wtL (TType.enc v.type') + wtL (TValue.enc v.default') + DC.wt (.sl (v.dirs.map TDir.enc))) = (((((left - ((v.name.length : Nat) : Int)) - ((v.desc.length : Nat) : Int)) - ((wtL (TType.enc v.type') : Nat) : Int)) - ((wtL (TValue.enc v.default') : Nat) : Int)) - ((DC.wt (.sl (v.dirs.map TDir.enc)) : Nat) : Int)) from (szR_ge (by omega)).trans (by omega)]
theorem szS_InDef' (vs : List TInDef) (hs : ∀ v ∈ vs, okL (TInDef.enc v) → ∀ left : Int, 0 ≤ left → left ≤ 1048576 → r_laws_szInDef [.s v.name, .s v.desc, .s v.type'.name, .s v.type'.wraps, .b v.has', .i v.default'.kind, .s v.default'.text, .sl (v.default'.items.map TValue.enc), .sl (v.default'.names.map S1), .sl (v.dirs.map TDir.enc), .i left] = .ret [.i (szR left (wtL (TInDef.enc v)))]) (ok : (DC.sl (vs.map TInDef.enc)).ok) (left : Int) (h0 : 0 ≤ left) (h1 : left ≤ 1048576) : r_laws_szInDefS [.sl (vs.map TInDef.enc), .i left] = .ret [.i (szR left (DC.wt (.sl (vs.map TInDef.enc))))] := by
  rw [DC.ok, zm] at ok
  obtain ⟨hl, ok⟩ := ok
  rw [eq_laws_szInDefS]
  simp only [E_laws_szInDefS, zz0, zz1, zb, zi, zs, zl]
  refine szS_all hl (fun i hi left h0 h1 => ?_) (fun left => ?_) h0 h1
  · have key := hs vs[i] (List.getElem_mem hi) (okV_mem ok _ (List.mem_map_of_mem (List.getElem_mem hi))) left h0 h1
    generalize wtL (TInDef.enc vs[i]) = w at key ⊢
    have hc1 : (i : Int) < (vs.length : Int) := by omega
    simp only [E_laws_szInDefSL1, zz0, zz1, zb, zi, zs, zl, Int.toNat_natCast, zm, map_getD hi, TInDef.enc_eq, key, Out.bindR_ret]
    by_cases hc : left < (w : Int)
    · simp [hi, hc1, hc, szR_lt hc]
    · simp [hi, hc1, hc, szR_ge hc, show ¬ left - (w : Int) < 0 by omega, wrap_succ hi hl]
  · simp [E_laws_szInDefSL1]
theorem szS_InDef (vs : List TInDef) (ok : (DC.sl (vs.map TInDef.enc)).ok) (left : Int) (h0 : 0 ≤ left) (h1 : left ≤ 1048576) : r_laws_szInDefS [.sl (vs.map TInDef.enc), .i left] = .ret [.i (szR left (DC.wt (.sl (vs.map TInDef.enc))))] := szS_InDef' vs (fun v _ => sz_InDef v) ok left h0 h1
theorem to_InDef (v : TInDef) : wtL (TInDef.enc v) ≤ 1048576 → r_laws_toInDef [.s v.name, .s v.desc, .s v.type'.name, .s v.type'.wraps, .b v.has', .i v.default'.kind, .s v.default'.text, .sl (v.default'.items.map TValue.enc), .sl (v.default'.names.map S1), .sl (v.dirs.map TDir.enc)] = .ret (TInDef.enc v) := by
  intro hw
  rw [wsum_InDef] at hw
  rw [eq_laws_toInDef]
  simp only [E_laws_toInDef, zz0, zz1, zb, zi, zs, zl]
  rw [to_Type v.type' (by omega)]
  simp only [Out.bindR_ret, TType.enc_eq, zz0, zz1, zb, zi, zs, zl]
  rw [to_Value v.default' (by omega)]
  simp only [Out.bindR_ret, TValue.enc_eq, zz0, zz1, zb, zi, zs, zl]
  rw [toS_Dir v.dirs (by omega)]
  simp only [Out.bindR_ret, zz0, zz1, zb, zi, zs, zl]
  rw [TInDef.enc_eq]
theorem toS_InDef' (vs : List TInDef) (hs : ∀ v ∈ vs, wtL (TInDef.enc v) ≤ 1048576 → r_laws_toInDef [.s v.name, .s v.desc, .s v.type'.name, .s v.type'.wraps, .b v.has', .i v.default'.kind, .s v.default'.text, .sl (v.default'.items.map TValue.enc), .sl (v.default'.names.map S1), .sl (v.dirs.map TDir.enc)] = .ret (TInDef.enc v)) (hw : DC.wt (.sl (vs.map TInDef.enc)) ≤ 1048576) : r_laws_toInDefS [.sl (vs.map TInDef.enc)] = .ret [.sl (vs.map TInDef.enc)] := by
  rw [DC.wt, zm] at hw
  have hl : vs.length ≤ 1048576 := by omega
  rw [eq_laws_toInDefS]
  simp only [E_laws_toInDefS, zz0, zz1, zb, zi, zs, zl]
  rw [if_pos ⟨by omega, by rw [zm]; exact lim_of hl, trivial, by omega, by omega⟩, Int.toNat_natCast, zm, show (0 : Int) = ((0 : Nat) : Int) from rfl, toS_loop hl (fun i hi cur h1 h2 => ?_) (fun cur => ?_)]
  · rfl
  · have key := hs vs[i] (List.getElem_mem hi) (by have := wtV_mem (List.mem_map_of_mem (f := TInDef.enc) (List.getElem_mem hi)); omega)
    have hc1 : (i : Int) < (vs.length : Int) := by omega
    simp only [E_laws_toInDefSL1, zz0, zz1, zb, zi, zs, zl, Int.toNat_natCast, zm, map_getD hi, h1, h2, TInDef.enc_eq] at key ⊢
    simp only [key, zz0, zz1, zb, zi, zs, zl, Out.bindR_ret]
    simp [hi, hc1, wrap_succ hi (show vs.length ≤ 9223372036854775807 by omega), setRunD]
  · simp [E_laws_toInDefSL1]
theorem toS_InDef (vs : List TInDef) (hw : DC.wt (.sl (vs.map TInDef.enc)) ≤ 1048576) : r_laws_toInDefS [.sl (vs.map TInDef.enc)] = .ret [.sl (vs.map TInDef.enc)] := toS_InDef' vs (fun v _ => to_InDef v) hw
theorem eq_InDef (v : TInDef) : wtL (TInDef.enc v) ≤ 1048576 → r_laws_eqInDef [.s v.name, .s v.desc, .s v.type'.name, .s v.type'.wraps, .b v.has', .i v.default'.kind, .s v.default'.text, .sl (v.default'.items.map TValue.enc), .sl (v.default'.names.map S1), .sl (v.dirs.map TDir.enc), .s v.name, .s v.desc, .s v.type'.name, .s v.type'.wraps, .b v.has', .i v.default'.kind, .s v.default'.text, .sl (v.default'.items.map TValue.enc), .sl (v.default'.names.map S1), .sl (v.dirs.map TDir.enc)] = .ret [.b true] := by
  intro hw
  rw [wsum_InDef] at hw
  rw [eq_laws_eqInDef]
  simp only [E_laws_eqInDef, zz0, zz1, zb, zi, zs, zl, bne_self_eq_false, beq_self_eq_true, Bool.not_true, zf, if_false]
  rw [eq_Type v.type' (by omega)]
  simp only [Out.bindR_ret, zz0, zz1, zb, zi, zs, zl, bne_self_eq_false, beq_self_eq_true, Bool.not_true, zf, if_false]
  rw [eq_Value v.default' (by omega)]
  simp only [Out.bindR_ret, zz0, zz1, zb, zi, zs, zl, bne_self_eq_false, beq_self_eq_true, Bool.not_true, zf, if_false]
  rw [eqS_Dir v.dirs (by omega)]
  simp only [Out.bindR_ret, zz0, zz1, zb, zi, zs, zl, bne_self_eq_false, beq_self_eq_true, Bool.not_true, zf, if_false]
theorem eqS_InDef' (vs : List TInDef) (hs : ∀ v ∈ vs, wtL (TInDef.enc v) ≤ 1048576 → r_laws_eqInDef [.s v.name, .s v.desc, .s v.type'.name, .s v.type'.wraps, .b v.has', .i v.default'.kind, .s v.default'.text, .sl (v.default'.items.map TValue.enc), .sl (v.default'.names.map S1), .sl (v.dirs.map TDir.enc), .s v.name, .s v.desc, .s v.type'.name, .s v.type'.wraps, .b v.has', .i v.default'.kind, .s v.default'.text, .sl (v.default'.items.map TValue.enc), .sl (v.default'.names.map S1), .sl (v.dirs.map TDir.enc)] = .ret [.b true]) (hw : DC.wt (.sl (vs.map TInDef.enc)) ≤ 1048576) : r_laws_eqInDefS [.sl (vs.map TInDef.enc), .sl (vs.map TInDef.enc)] = .ret [.b true] := by
  rw [DC.wt, zm] at hw
  have hl : vs.length ≤ 1048576 := by omega
  rw [eq_laws_eqInDefS]
  simp only [E_laws_eqInDefS, zz0, zz1, zb, zi, zs, zl]
  refine eqS_all (fun i hi => ?_) ?_
  · rw [zm] at hi
    have key := hs vs[i] (List.getElem_mem hi) (by have := wtV_mem (List.mem_map_of_mem (f := TInDef.enc) (List.getElem_mem hi)); omega)
    have hc1 : (i : Int) < (vs.length : Int) := by omega
    simp only [E_laws_eqInDefSL1, zz0, zz1, zb, zi, zs, zl, Int.toNat_natCast, zm, map_getD hi, TInDef.enc_eq] at key ⊢
    simp only [key, zz0, zz1, zb, zi, zs, zl, Out.bindR_ret]
    simp [hi, hc1, wrap_succ hi (show vs.length ≤ 9223372036854775807 by omega)]
  · simp [E_laws_eqInDefSL1]
theorem eqS_InDef (vs : List TInDef) (hw : DC.wt (.sl (vs.map TInDef.enc)) ≤ 1048576) : r_laws_eqInDefS [.sl (vs.map TInDef.enc), .sl (vs.map TInDef.enc)] = .ret [.b true] := eqS_InDef' vs (fun v _ => eq_InDef v) hw
theorem wsum_FieldDef (v : TFieldDef) : wtL (TFieldDef.enc v) = v.name.length + v.desc.length + DC.wt (.sl (v.args.map TInDef.enc)) + wtL (TType.enc v.type') + DC.wt (.sl (v.dirs.map TDir.enc)) := by
  simp only [TFieldDef.enc_eq, wtL, DC.wt, TType.enc_eq]
  try omega
theorem sz_FieldDef (v : TFieldDef) : okL (TFieldDef.enc v) → ∀ left : Int, 0 ≤ left → left ≤ 1048576 → r_laws_szFieldDef [.s v.name, .s v.desc, .sl (v.args.map TInDef.enc), .s v.type'.name, .s v.type'.wraps, .sl (v.dirs.map TDir.enc), .i left] = .ret [.i (szR left (wtL (TFieldDef.enc v)))] := by
  intro ok left h0 h1
  rw [TFieldDef.enc_eq] at ok
  simp only [okL] at ok
  rw [eq_laws_szFieldDef]
  simp only [E_laws_szFieldDef, zz0, zz1, zb, zi, zs, zl]
  rw [wsum_FieldDef]
  have b0 : v.name.length ≤ 9223372036854775807 := by simpa only [DC.ok] using ok.1
  have b1 : v.desc.length ≤ 9223372036854775807 := by simpa only [DC.ok] using ok.2.1
  rw [show IntKind.i64.wrap (left - (v.name.length : Int)) = left - (v.name.length : Int) from wrap64 (by omega) (by omega)]
  by_cases c0 : left < ((v.name.length : Nat) : Int)
  · have c0' : left - ((v.name.length : Nat) : Int) < 0 := by omega
    simp only [c0', decide_true, if_true]
    try rw [szR_lt (by omega)]
  have c0' : ¬ left - ((v.name.length : Nat) : Int) < 0 := by omega
  simp only [c0', decide_false, zf, if_false]
  rw [show IntKind.i64.wrap ((left - ((v.name.length : Nat) : Int)) - (v.desc.length : Int)) = (left - ((v.name.length : Nat) : Int)) - (v.desc.length : Int) from wrap64 (by omega) (by omega)]
  by_cases c1 : (left - ((v.name.length : Nat) : Int)) < ((v.desc.length : Nat) : Int)
  · have c1' : (left - ((v.name.length : Nat) : Int)) - ((v.desc.length : Nat) : Int) < 0 := by omega
    simp only [c1', decide_true, if_true]
    try rw [szR_lt (by omega)]
  have c1' : ¬ (left - ((v.name.length : Nat) : Int)) - ((v.desc.length : Nat) : Int) < 0 := by omega
  simp only [c1', decide_false, zf, if_false]
  rw [szS_InDef v.args ok.2.2.1 (((left - ((v.name.length : Nat) : Int)) - ((v.desc.length : Nat) : Int))) (by omega) (by omega)]
  simp only [Out.bindR_ret, zz0, zz1, zb, zi, zs, zl]
  by_cases c2 : ((left - ((v.name.length : Nat) : Int)) - ((v.desc.length : Nat) : Int)) < ((DC.wt (.sl (v.args.map TInDef.enc)) : Nat) : Int)
  · rw [szR_lt c2]
    simp only [show (-1 : Int) < 0 by omega, decide_true, if_true]
    try rw [szR_lt (by omega)]
  rw [szR_ge c2]
  have c2' : ¬ ((left - ((v.name.length : Nat) : Int)) - ((v.desc.length : Nat) : Int)) - ((DC.wt (.sl (v.args.map TInDef.enc)) : Nat) : Int) < 0 := by omega
  simp only [c2', decide_false, zf, if_false]
  rw [sz_Type v.type' (by rw [TType.enc_eq]; simp only [okL]; exact ⟨ok.2.2.2.1, ok.2.2.2.2.1, trivial⟩) ((((left - ((v.name.length : Nat) : Int)) - ((v.desc.length : Nat) : Int)) - ((DC.wt (.sl (v.args.map TInDef.enc)) : Nat) : Int))) (by omega) (by omega)]
  simp only [Out.bindR_ret, zz0, zz1, zb, zi, zs, zl]
  by_cases c3 : (((left - ((v.name.length : Nat) : Int)) - ((v.desc.length : Nat) : Int)) - ((DC.wt (.sl (v.args.map TInDef.enc)) : Nat) : Int)) < ((wtL (TType.enc v.type') : Nat) : Int)
  · rw [szR_lt c3]
    simp only [show (-1 : Int) < 0 by omega, decide_true, if_true]
    try rw [szR_lt (by omega)]
  rw [szR_ge c3]
  have c3' : ¬ (((left - ((v.name.length : Nat) : Int)) - ((v.desc.length : Nat) : Int)) - ((DC.wt (.sl (v.args.map TInDef.enc)) : Nat) : Int)) - ((wtL (TType.enc v.type') : Nat) : Int) < 0 := by omega
  simp only [c3', decide_false, zf, if_false]
  rw [szS_Dir v.dirs ok.2.2.2.2.2.1 (((((left - ((v.name.length : Nat) : Int)) - ((v.desc.length : Nat) : Int)) - ((DC.wt (.sl (v.args.map TInDef.enc)) : Nat) : Int)) - ((wtL (TType.enc v.type') : Nat) : Int))) (by omega) (by omega)]
  simp only [Out.bindR_ret, zz0, zz1, zb, zi, zs, zl]
  by_cases c4 : ((((left - ((v.name.length : Nat) : Int)) - ((v.desc.length : Nat) : Int)) - ((DC.wt (.sl (v.args.map TInDef.enc)) : Nat) : Int)) - ((wtL (TType.enc v.type') : Nat) : Int)) < ((DC.wt (.sl (v.dirs.map TDir.enc)) : Nat) : Int)
  · rw [szR_lt c4]
    simp only [show (-1 : Int) < 0 by omega, decide_true, if_true]
    try rw [szR_lt (by omega)]
  rw [szR_ge c4]
  have c4' : ¬ ((((left - ((v.name.length : Nat) : Int)) - ((v.desc.length : Nat) : Int)) - ((DC.wt (.sl (v.args.map TInDef.enc)) : Nat) : Int)) - ((wtL (TType.enc v.type') : Nat) : Int)) - ((DC.wt (.sl (v.dirs.map TDir.enc)) : Nat) : Int) < 0 := by omega
  simp only [c4', decide_false, zf, if_false]
  first
  | done
  | rw [show szR left (v.name.length + v.desc.length + DC.wt (.sl (v.args.map TInDef.enc)) + wtL (TType.enc v.type') + DC.wt (.sl (v.dirs.map TDir.enc))) = (((((left - ((v.name.length : Nat) : Int)) - ((v.desc.length : Nat) : Int)) - ((DC.wt (.sl (v.args.map TInDef.enc)) : Nat) : Int)) - ((wtL (TType.enc v.type') : Nat) : Int)) - ((DC.wt (.sl (v.dirs.map TDir.enc)) : Nat) : Int)) from (szR_ge (by omega)).trans (by omega)]
theorem szS_FieldDef' (vs : List TFieldDef) (hs : ∀ v ∈ vs, okL (TFieldDef.enc v) → ∀ left : Int, 0 ≤ left → left ≤ 1048576 → r_laws_szFieldDef [.s v.name, .s v.desc, .sl (v.args.map TInDef.enc), .s v.type'.name, .s v.type'.wraps, .sl (v.dirs.map TDir.enc), .i left] = .ret [.i (szR left (wtL (TFieldDef.enc v)))]) (ok : (DC.sl (vs.map TFieldDef.enc)).ok) (left : Int) (h0 : 0 ≤ left) (h1 : left ≤ 1048576) : r_laws_szFieldDefS [.sl (vs.map TFieldDef.enc), .i left] = .ret [.i (szR left (DC.wt (.sl (vs.map TFieldDef.enc))))] := by
  rw [DC.ok, zm] at ok
  obtain ⟨hl, ok⟩ := ok
  rw [eq_laws_szFieldDefS]
  simp only [E_laws_szFieldDefS, zz0, zz1, zb, zi, zs, zl]
  refine szS_all hl (fun i hi left h0 h1 => ?_) (fun left => ?_) h0 h1
  · have key := hs vs[i] (List.getElem_mem hi) (okV_mem ok _ (List.mem_map_of_mem (List.getElem_mem hi))) left h0 h1
    generalize wtL (TFieldDef.enc vs[i]) = w at key ⊢
    have hc1 : (i : Int) < (vs.length : Int) := by omega
    simp only [E_laws_szFieldDefSL1, zz0, zz1, zb, zi, zs, zl, Int.toNat_natCast, zm, map_getD hi, TFieldDef.enc_eq, key, Out.bindR_ret]
    by_cases hc : left < (w : Int)
    · simp [hi, hc1, hc, szR_lt hc]
    · simp [hi, hc1, hc, szR_ge hc, show ¬ left - (w : Int) < 0 by omega, wrap_succ hi hl]
  · simp [E_laws_szFieldDefSL1]
theorem szS_FieldDef (vs : List TFieldDef) (ok : (DC.sl (vs.map TFieldDef.enc)).ok) (left : Int) (h0 : 0 ≤ left) (h1 : left ≤ 1048576) : r_laws_szFieldDefS [.sl (vs.map TFieldDef.enc), .i left] = .ret [.i (szR left (DC.wt (.sl (vs.map TFieldDef.enc))))] := szS_FieldDef' vs (fun v _ => sz_FieldDef v) ok left h0 h1
theorem to_FieldDef (v : TFieldDef) : wtL (TFieldDef.enc v) ≤ 1048576 → r_laws_toFieldDef [.s v.name, .s v.desc, .sl (v.args.map TInDef.enc), .s v.type'.name, .s v.type'.wraps, .sl (v.dirs.map TDir.enc)] = .ret (TFieldDef.enc v) := by
  intro hw
  rw [wsum_FieldDef] at hw
  rw [eq_laws_toFieldDef]
  simp only [E_laws_toFieldDef, zz0, zz1, zb, zi, zs, zl]
  rw [toS_InDef v.args (by omega)]
  simp only [Out.bindR_ret, zz0, zz1, zb, zi, zs, zl]
  rw [to_Type v.type' (by omega)]
  simp only [Out.bindR_ret, TType.enc_eq, zz0, zz1, zb, zi, zs, zl]
  rw [toS_Dir v.dirs (by omega)]
  simp only [Out.bindR_ret, zz0, zz1, zb, zi, zs, zl]
  rw [TFieldDef.enc_eq]
theorem toS_FieldDef' (vs : List TFieldDef) (hs : ∀ v ∈ vs, wtL (TFieldDef.enc v) ≤ 1048576 → r_laws_toFieldDef [.s v.name, .s v.desc, .sl (v.args.map TInDef.enc), .s v.type'.name, .s v.type'.wraps, .sl (v.dirs.map TDir.enc)] = .ret (TFieldDef.enc v)) (hw : DC.wt (.sl (vs.map TFieldDef.enc)) ≤ 1048576) : r_laws_toFieldDefS [.sl (vs.map TFieldDef.enc)] = .ret [.sl (vs.map TFieldDef.enc)] := by
  rw [DC.wt, zm] at hw
  have hl : vs.length ≤ 1048576 := by omega
  rw [eq_laws_toFieldDefS]
  simp only [E_laws_toFieldDefS, zz0, zz1, zb, zi, zs, zl]
  rw [if_pos ⟨by omega, by rw [zm]; exact lim_of hl, trivial, by omega, by omega⟩, Int.toNat_natCast, zm, show (0 : Int) = ((0 : Nat) : Int) from rfl, toS_loop hl (fun i hi cur h1 h2 => ?_) (fun cur => ?_)]
  · rfl
  · have key := hs vs[i] (List.getElem_mem hi) (by have := wtV_mem (List.mem_map_of_mem (f := TFieldDef.enc) (List.getElem_mem hi)); omega)
    have hc1 : (i : Int) < (vs.length : Int) := by omega
    simp only [E_laws_toFieldDefSL1, zz0, zz1, zb, zi, zs, zl, Int.toNat_natCast, zm, map_getD hi, h1, h2, TFieldDef.enc_eq] at key ⊢
    simp only [key, zz0, zz1, zb, zi, zs, zl, Out.bindR_ret]
    simp [hi, hc1, wrap_succ hi (show vs.length ≤ 9223372036854775807 by omega), setRunD]
  · simp [E_laws_toFieldDefSL1]
theorem toS_FieldDef (vs : List TFieldDef) (hw : DC.wt (.sl (vs.map TFieldDef.enc)) ≤ 1048576) : r_laws_toFieldDefS [.sl (vs.map TFieldDef.enc)] = .ret [.sl (vs.map TFieldDef.enc)] := toS_FieldDef' vs (fun v _ => to_FieldDef v) hw
theorem eq_FieldDef (v : TFieldDef) : wtL (TFieldDef.enc v) ≤ 1048576 → r_laws_eqFieldDef [.s v.name, .s v.desc, .sl (v.args.map TInDef.enc), .s v.type'.name, .s v.type'.wraps, .sl (v.dirs.map TDir.enc), .s v.name, .s v.desc, .sl (v.args.map TInDef.enc), .s v.type'.name, .s v.type'.wraps, .sl (v.dirs.map TDir.enc)] = .ret [.b true] := by
  intro hw
  rw [wsum_FieldDef] at hw
  rw [eq_laws_eqFieldDef]
  simp only [E_laws_eqFieldDef, zz0, zz1, zb, zi, zs, zl, bne_self_eq_false, beq_self_eq_true, Bool.not_true, zf, if_false]
  rw [eqS_InDef v.args (by omega)]
  simp only [Out.bindR_ret, zz0, zz1, zb, zi, zs, zl, bne_self_eq_false, beq_self_eq_true, Bool.not_true, zf, if_false]
  rw [eq_Type v.type' (by omega)]
  simp only [Out.bindR_ret, zz0, zz1, zb, zi, zs, zl, bne_self_eq_false, beq_self_eq_true, Bool.not_true, zf, if_false]
  rw [eqS_Dir v.dirs (by omega)]
  simp only [Out.bindR_ret, zz0, zz1, zb, zi, zs, zl, bne_self_eq_false, beq_self_eq_true, Bool.not_true, zf, if_false]
theorem eqS_FieldDef' (vs : List TFieldDef) (hs : ∀ v ∈ vs, wtL (TFieldDef.enc v) ≤ 1048576 → r_laws_eqFieldDef [.s v.name, .s v.desc, .sl (v.args.map TInDef.enc), .s v.type'.name, .s v.type'.wraps, .sl (v.dirs.map TDir.enc), .s v.name, .s v.desc, .sl (v.args.map TInDef.enc), .s v.type'.name, .s v.type'.wraps, .sl (v.dirs.map TDir.enc)] = .ret [.b true]) (hw : DC.wt (.sl (vs.map TFieldDef.enc)) ≤ 1048576) : r_laws_eqFieldDefS [.sl (vs.map TFieldDef.enc), .sl (vs.map TFieldDef.enc)] = .ret [.b true] := by
  rw [DC.wt, zm] at hw
  have hl : vs.length ≤ 1048576 := by omega
  rw [eq_laws_eqFieldDefS]
  simp only [E_laws_eqFieldDefS, zz0, zz1, zb, zi, zs, zl]
  refine eqS_all (fun i hi => ?_) ?_
  · rw [zm] at hi
    have key := hs vs[i] (List.getElem_mem hi) (by have := wtV_mem (List.mem_map_of_mem (f := TFieldDef.enc) (List.getElem_mem hi)); omega)
    have hc1 : (i : Int) < (vs.length : Int) := by omega
    simp only [E_laws_eqFieldDefSL1, zz0, zz1, zb, zi, zs, zl, Int.toNat_natCast, zm, map_getD hi, TFieldDef.enc_eq] at key ⊢
    simp only [key, zz0, zz1, zb, zi, zs, zl, Out.bindR_ret]
    simp [hi, hc1, wrap_succ hi (show vs.length ≤ 9223372036854775807 by omega)]
  · simp [E_laws_eqFieldDefSL1]
theorem eqS_FieldDef (vs : List TFieldDef) (hw : DC.wt (.sl (vs.map TFieldDef.enc)) ≤ 1048576) : r_laws_eqFieldDefS [.sl (vs.map TFieldDef.enc), .sl (vs.map TFieldDef.enc)] = .ret [.b true] := eqS_FieldDef' vs (fun v _ => eq_FieldDef v) hw
theorem wsum_EnumDef (v : TEnumDef) : wtL (TEnumDef.enc v) = v.name.length + v.desc.length + DC.wt (.sl (v.dirs.map TDir.enc)) := by
  simp only [TEnumDef.enc_eq, wtL, DC.wt]
  try omega
theorem sz_EnumDef (v : TEnumDef) : okL (TEnumDef.enc v) → ∀ left : Int, 0 ≤ left → left ≤ 1048576 → r_laws_szEnumDef [.s v.name, .s v.desc, .sl (v.dirs.map TDir.enc), .i left] = .ret [.i (szR left (wtL (TEnumDef.enc v)))] := by
  intro ok left h0 h1
  rw [TEnumDef.enc_eq] at ok
  simp only [okL] at ok
  rw [eq_laws_szEnumDef]
  simp only [E_laws_szEnumDef, zz0, zz1, zb, zi, zs, zl]
  rw [wsum_EnumDef]
  have b0 : v.name.length ≤ 9223372036854775807 := by simpa only [DC.ok] using ok.1
  have b1 : v.desc.length ≤ 9223372036854775807 := by simpa only [DC.ok] using ok.2.1
  rw [show IntKind.i64.wrap (left - (v.name.length : Int)) = left - (v.name.length : Int) from wrap64 (by omega) (by omega)]
  by_cases c0 : left < ((v.name.length : Nat) : Int)
  · have c0' : left - ((v.name.length : Nat) : Int) < 0 := by omega
    simp only [c0', decide_true, if_true]
    try rw [szR_lt (by omega)]
  have c0' : ¬ left - ((v.name.length : Nat) : Int) < 0 := by omega
  simp only [c0', decide_false, zf, if_false]
  rw [show IntKind.i64.wrap ((left - ((v.name.length : Nat) : Int)) - (v.desc.length : Int)) = (left - ((v.name.length : Nat) : Int)) - (v.desc.length : Int) from wrap64 (by omega) (by omega)]
  by_cases c1 : (left - ((v.name.length : Nat) : Int)) < ((v.desc.length : Nat) : Int)
  · have c1' : (left - ((v.name.length : Nat) : Int)) - ((v.desc.length : Nat) : Int) < 0 := by omega
    simp only [c1', decide_true, if_true]
    try rw [szR_lt (by omega)]
  have c1' : ¬ (left - ((v.name.length : Nat) : Int)) - ((v.desc.length : Nat) : Int) < 0 := by omega
  simp only [c1', decide_false, zf, if_false]
  rw [szS_Dir v.dirs ok.2.2.1 (((left - ((v.name.length : Nat) : Int)) - ((v.desc.length : Nat) : Int))) (by omega) (by omega)]
  simp only [Out.bindR_ret, zz0, zz1, zb, zi, zs, zl]
  by_cases c2 : ((left - ((v.name.length : Nat) : Int)) - ((v.desc.length : Nat) : Int)) < ((DC.wt (.sl (v.dirs.map TDir.enc)) : Nat) : Int)
  · rw [szR_lt c2]
    simp only [show (-1 : Int) < 0 by omega, decide_true, if_true]
    try rw [szR_lt (by omega)]
  rw [szR_ge c2]
  have c2' : ¬ ((left - ((v.name.length : Nat) : Int)) - ((v.desc.length : Nat) : Int)) - ((DC.wt (.sl (v.dirs.map TDir.enc)) : Nat) : Int) < 0 := by omega
  simp only [c2', decide_false, zf, if_false]
  first
  | done
  | rw [show szR left (v.name.length + v.desc.length + DC.wt (.sl (v.dirs.map TDir.enc))) = (((left - ((v.name.length : Nat) : Int)) - ((v.desc.length : Nat) : Int)) - ((DC.wt (.sl (v.dirs.map TDir.enc)) : Nat) : Int)) from (szR_ge (by omega)).trans (by omega)]
theorem szS_EnumDef' (vs : List TEnumDef) (hs : ∀ v ∈ vs, okL (TEnumDef.enc v) → ∀ left : Int, 0 ≤ left → left ≤ 1048576 → r_laws_szEnumDef [.s v.name, .s v.desc, .sl (v.dirs.map TDir.enc), .i left] = .ret [.i (szR left (wtL (TEnumDef.enc v)))]) (ok : (DC.sl (vs.map TEnumDef.enc)).ok) (left : Int) (h0 : 0 ≤ left) (h1 : left ≤ 1048576) : r_laws_szEnumDefS [.sl (vs.map TEnumDef.enc), .i left] = .ret [.i (szR left (DC.wt (.sl (vs.map TEnumDef.enc))))] := by
  rw [DC.ok, zm] at ok
  obtain ⟨hl, ok⟩ := ok
  rw [eq_laws_szEnumDefS]
  simp only [E_laws_szEnumDefS, zz0, zz1, zb, zi, zs, zl]
  refine szS_all hl (fun i hi left h0 h1 => ?_) (fun left => ?_) h0 h1
  · have key := hs vs[i] (List.getElem_mem hi) (okV_mem ok _ (List.mem_map_of_mem (List.getElem_mem hi))) left h0 h1
    generalize wtL (TEnumDef.enc vs[i]) = w at key ⊢
    have hc1 : (i : Int) < (vs.length : Int) := by omega
    simp only [E_laws_szEnumDefSL1, zz0, zz1, zb, zi, zs, zl, Int.toNat_natCast, zm, map_getD hi, TEnumDef.enc_eq, key, Out.bindR_ret]
    by_cases hc : left < (w : Int)
    · simp [hi, hc1, hc, szR_lt hc]
    · simp [hi, hc1, hc, szR_ge hc, show ¬ left - (w : Int) < 0 by omega, wrap_succ hi hl]
  · simp [E_laws_szEnumDefSL1]
theorem szS_EnumDef (vs : List TEnumDef) (ok : (DC.sl (vs.map TEnumDef.enc)).ok) (left : Int) (h0 : 0 ≤ left) (h1 : left ≤ 1048576) : r_laws_szEnumDefS [.sl (vs.map TEnumDef.enc), .i left] = .ret [.i (szR left (DC.wt (.sl (vs.map TEnumDef.enc))))] := szS_EnumDef' vs (fun v _ => sz_EnumDef v) ok left h0 h1
theorem to_EnumDef (v : TEnumDef) : wtL (TEnumDef.enc v) ≤ 1048576 → r_laws_toEnumDef [.s v.name, .s v.desc, .sl (v.dirs.map TDir.enc)] = .ret (TEnumDef.enc v) := by
  intro hw
  rw [wsum_EnumDef] at hw
  rw [eq_laws_toEnumDef]
  simp only [E_laws_toEnumDef, zz0, zz1, zb, zi, zs, zl]
  rw [toS_Dir v.dirs (by omega)]
  simp only [Out.bindR_ret, zz0, zz1, zb, zi, zs, zl]
  rw [TEnumDef.enc_eq]
theorem toS_EnumDef' (vs : List TEnumDef) (hs : ∀ v ∈ vs, wtL (TEnumDef.enc v) ≤ 1048576 → r_laws_toEnumDef [.s v.name, .s v.desc, .sl (v.dirs.map TDir.enc)] = .ret (TEnumDef.enc v)) (hw : DC.wt (.sl (vs.map TEnumDef.enc)) ≤ 1048576) : r_laws_toEnumDefS [.sl (vs.map TEnumDef.enc)] = .ret [.sl (vs.map TEnumDef.enc)] := by
  rw [DC.wt, zm] at hw
  have hl : vs.length ≤ 1048576 := by omega
  rw [eq_laws_toEnumDefS]
  simp only [E_laws_toEnumDefS, zz0, zz1, zb, zi, zs, zl]
  rw [if_pos ⟨by omega, by rw [zm]; exact lim_of hl, trivial, by omega, by omega⟩, Int.toNat_natCast, zm, show (0 : Int) = ((0 : Nat) : Int) from rfl, toS_loop hl (fun i hi cur h1 h2 => ?_) (fun cur => ?_)]
  · rfl
  · have key := hs vs[i] (List.getElem_mem hi) (by have := wtV_mem (List.mem_map_of_mem (f := TEnumDef.enc) (List.getElem_mem hi)); omega)
    have hc1 : (i : Int) < (vs.length : Int) := by omega
    simp only [E_laws_toEnumDefSL1, zz0, zz1, zb, zi, zs, zl, Int.toNat_natCast, zm, map_getD hi, h1, h2, TEnumDef.enc_eq] at key ⊢
    simp only [key, zz0, zz1, zb, zi, zs, zl, Out.bindR_ret]
    simp [hi, hc1, wrap_succ hi (show vs.length ≤ 9223372036854775807 by omega), setRunD]
  · simp [E_laws_toEnumDefSL1]
theorem toS_EnumDef (vs : List TEnumDef) (hw : DC.wt (.sl (vs.map TEnumDef.enc)) ≤ 1048576) : r_laws_toEnumDefS [.sl (vs.map TEnumDef.enc)] = .ret [.sl (vs.map TEnumDef.enc)] := toS_EnumDef' vs (fun v _ => to_EnumDef v) hw
theorem eq_EnumDef (v : TEnumDef) : wtL (TEnumDef.enc v) ≤ 1048576 → r_laws_eqEnumDef [.s v.name, .s v.desc, .sl (v.dirs.map TDir.enc), .s v.name, .s v.desc, .sl (v.dirs.map TDir.enc)] = .ret [.b true] := by
  intro hw
  rw [wsum_EnumDef] at hw
  rw [eq_laws_eqEnumDef]
  simp only [E_laws_eqEnumDef, zz0, zz1, zb, zi, zs, zl, bne_self_eq_false, beq_self_eq_true, Bool.not_true, zf, if_false]
  rw [eqS_Dir v.dirs (by omega)]
  simp only [Out.bindR_ret, zz0, zz1, zb, zi, zs, zl, bne_self_eq_false, beq_self_eq_true, Bool.not_true, zf, if_false]
theorem eqS_EnumDef' (vs : List TEnumDef) (hs : ∀ v ∈ vs, wtL (TEnumDef.enc v) ≤ 1048576 → r_laws_eqEnumDef [.s v.name, .s v.desc, .sl (v.dirs.map TDir.enc), .s v.name, .s v.desc, .sl (v.dirs.map TDir.enc)] = .ret [.b true]) (hw : DC.wt (.sl (vs.map TEnumDef.enc)) ≤ 1048576) : r_laws_eqEnumDefS [.sl (vs.map TEnumDef.enc), .sl (vs.map TEnumDef.enc)] = .ret [.b true] := by
  rw [DC.wt, zm] at hw
  have hl : vs.length ≤ 1048576 := by omega
  rw [eq_laws_eqEnumDefS]
  simp only [E_laws_eqEnumDefS, zz0, zz1, zb, zi, zs, zl]
  refine eqS_all (fun i hi => ?_) ?_
  · rw [zm] at hi
    have key := hs vs[i] (List.getElem_mem hi) (by have := wtV_mem (List.mem_map_of_mem (f := TEnumDef.enc) (List.getElem_mem hi)); omega)
    have hc1 : (i : Int) < (vs.length : Int) := by omega
    simp only [E_laws_eqEnumDefSL1, zz0, zz1, zb, zi, zs, zl, Int.toNat_natCast, zm, map_getD hi, TEnumDef.enc_eq] at key ⊢
    simp only [key, zz0, zz1, zb, zi, zs, zl, Out.bindR_ret]
    simp [hi, hc1, wrap_succ hi (show vs.length ≤ 9223372036854775807 by omega)]
  · simp [E_laws_eqEnumDefSL1]
theorem eqS_EnumDef (vs : List TEnumDef) (hw : DC.wt (.sl (vs.map TEnumDef.enc)) ≤ 1048576) : r_laws_eqEnumDefS [.sl (vs.map TEnumDef.enc), .sl (vs.map TEnumDef.enc)] = .ret [.b true] := eqS_EnumDef' vs (fun v _ => eq_EnumDef v) hw
theorem wsum_Root (v : TRoot) : wtL (TRoot.enc v) = v.type'.length := by
  simp only [TRoot.enc_eq, wtL, DC.wt]
  try omega
theorem sz_Root (v : TRoot) : okL (TRoot.enc v) → ∀ left : Int, 0 ≤ left → left ≤ 1048576 → r_laws_szRoot [.i v.kind, .s v.type', .i left] = .ret [.i (szR left (wtL (TRoot.enc v)))] := by
  intro ok left h0 h1
  rw [TRoot.enc_eq] at ok
  simp only [okL] at ok
  rw [eq_laws_szRoot]
  simp only [E_laws_szRoot, zz0, zz1, zb, zi, zs, zl]
  rw [wsum_Root]
  have b0 : v.type'.length ≤ 9223372036854775807 := by simpa only [DC.ok] using ok.2.1
  rw [show IntKind.i64.wrap (left - (v.type'.length : Int)) = left - (v.type'.length : Int) from wrap64 (by omega) (by omega)]
  by_cases c0 : left < ((v.type'.length : Nat) : Int)
  · have c0' : left - ((v.type'.length : Nat) : Int) < 0 := by omega
    simp only [c0', decide_true, if_true]
    try rw [szR_lt (by omega)]
  have c0' : ¬ left - ((v.type'.length : Nat) : Int) < 0 := by omega
  simp only [c0', decide_false, zf, if_false]
  first
  | done
  | rw [show szR left (v.type'.length) = (left - ((v.type'.length : Nat) : Int)) from (szR_ge (by omega)).trans (by omega)]
theorem szS_Root' (vs : List TRoot) (hs : ∀ v ∈ vs, okL (TRoot.enc v) → ∀ left : Int, 0 ≤ left → left ≤ 1048576 → r_laws_szRoot [.i v.kind, .s v.type', .i left] = .ret [.i (szR left (wtL (TRoot.enc v)))]) (ok : (DC.sl (vs.map TRoot.enc)).ok) (left : Int) (h0 : 0 ≤ left) (h1 : left ≤ 1048576) : r_laws_szRootS [.sl (vs.map TRoot.enc), .i left] = .ret [.i (szR left (DC.wt (.sl (vs.map TRoot.enc))))] := by
  rw [DC.ok, zm] at ok
  obtain ⟨hl, ok⟩ := ok
  rw [eq_laws_szRootS]
  simp only [E_laws_szRootS, zz0, zz1, zb, zi, zs, zl]
  refine szS_all hl (fun i hi left h0 h1 => ?_) (fun left => ?_) h0 h1
  · have key := hs vs[i] (List.getElem_mem hi) (okV_mem ok _ (List.mem_map_of_mem (List.getElem_mem hi))) left h0 h1
    generalize wtL (TRoot.enc vs[i]) = w at key ⊢
    have hc1 : (i : Int) < (vs.length : Int) := by omega
    simp only [E_laws_szRootSL1, zz0, zz1, zb, zi, zs, zl, Int.toNat_natCast, zm, map_getD hi, TRoot.enc_eq, key, Out.bindR_ret]
    by_cases hc : left < (w : Int)
    · simp [hi, hc1, hc, szR_lt hc]
    · simp [hi, hc1, hc, szR_ge hc, show ¬ left - (w : Int) < 0 by omega, wrap_succ hi hl]
  · simp [E_laws_szRootSL1]
theorem szS_Root (vs : List TRoot) (ok : (DC.sl (vs.map TRoot.enc)).ok) (left : Int) (h0 : 0 ≤ left) (h1 : left ≤ 1048576) : r_laws_szRootS [.sl (vs.map TRoot.enc), .i left] = .ret [.i (szR left (DC.wt (.sl (vs.map TRoot.enc))))] := szS_Root' vs (fun v _ => sz_Root v) ok left h0 h1
theorem to_Root (v : TRoot) : wtL (TRoot.enc v) ≤ 1048576 → r_laws_toRoot [.i v.kind, .s v.type'] = .ret (TRoot.enc v) := by
  intro hw
  rw [wsum_Root] at hw
  rw [eq_laws_toRoot]
  simp only [E_laws_toRoot, zz0, zz1, zb, zi, zs, zl]
  rw [TRoot.enc_eq]
theorem toS_Root' (vs : List TRoot) (hs : ∀ v ∈ vs, wtL (TRoot.enc v) ≤ 1048576 → r_laws_toRoot [.i v.kind, .s v.type'] = .ret (TRoot.enc v)) (hw : DC.wt (.sl (vs.map TRoot.enc)) ≤ 1048576) : r_laws_toRootS [.sl (vs.map TRoot.enc)] = .ret [.sl (vs.map TRoot.enc)] := by
  rw [DC.wt, zm] at hw
  have hl : vs.length ≤ 1048576 := by omega
  rw [eq_laws_toRootS]
  simp only [E_laws_toRootS, zz0, zz1, zb, zi, zs, zl]
  rw [if_pos ⟨by omega, by rw [zm]; exact lim_of hl, trivial, by omega, by omega⟩, Int.toNat_natCast, zm, show (0 : Int) = ((0 : Nat) : Int) from rfl, toS_loop hl (fun i hi cur h1 h2 => ?_) (fun cur => ?_)]
  · rfl
  · have key := hs vs[i] (List.getElem_mem hi) (by have := wtV_mem (List.mem_map_of_mem (f := TRoot.enc) (List.getElem_mem hi)); omega)
    have hc1 : (i : Int) < (vs.length : Int) := by omega
    simp only [E_laws_toRootSL1, zz0, zz1, zb, zi, zs, zl, Int.toNat_natCast, zm, map_getD hi, h1, h2, TRoot.enc_eq] at key ⊢
    simp only [key, zz0, zz1, zb, zi, zs, zl, Out.bindR_ret]
    simp [hi, hc1, wrap_succ hi (show vs.length ≤ 9223372036854775807 by omega), setRunD]
  · simp [E_laws_toRootSL1]
theorem toS_Root (vs : List TRoot) (hw : DC.wt (.sl (vs.map TRoot.enc)) ≤ 1048576) : r_laws_toRootS [.sl (vs.map TRoot.enc)] = .ret [.sl (vs.map TRoot.enc)] := toS_Root' vs (fun v _ => to_Root v) hw
theorem eq_Root (v : TRoot) : wtL (TRoot.enc v) ≤ 1048576 → r_laws_eqRoot [.i v.kind, .s v.type', .i v.kind, .s v.type'] = .ret [.b true] := by
  intro hw
  rw [wsum_Root] at hw
  rw [eq_laws_eqRoot]
  simp only [E_laws_eqRoot, zz0, zz1, zb, zi, zs, zl, bne_self_eq_false, beq_self_eq_true, Bool.not_true, zf, if_false]
theorem eqS_Root' (vs : List TRoot) (hs : ∀ v ∈ vs, wtL (TRoot.enc v) ≤ 1048576 → r_laws_eqRoot [.i v.kind, .s v.type', .i v.kind, .s v.type'] = .ret [.b true]) (hw : DC.wt (.sl (vs.map TRoot.enc)) ≤ 1048576) : r_laws_eqRootS [.sl (vs.map TRoot.enc), .sl (vs.map TRoot.enc)] = .ret [.b true] := by
  rw [DC.wt, zm] at hw
  have hl : vs.length ≤ 1048576 := by omega
  rw [eq_laws_eqRootS]
  simp only [E_laws_eqRootS, zz0, zz1, zb, zi, zs, zl]
  refine eqS_all (fun i hi => ?_) ?_
  · rw [zm] at hi
    have key := hs vs[i] (List.getElem_mem hi) (by have := wtV_mem (List.mem_map_of_mem (f := TRoot.enc) (List.getElem_mem hi)); omega)
    have hc1 : (i : Int) < (vs.length : Int) := by omega
    simp only [E_laws_eqRootSL1, zz0, zz1, zb, zi, zs, zl, Int.toNat_natCast, zm, map_getD hi, TRoot.enc_eq] at key ⊢
    simp only [key, zz0, zz1, zb, zi, zs, zl, Out.bindR_ret]
    simp [hi, hc1, wrap_succ hi (show vs.length ≤ 9223372036854775807 by omega)]
  · simp [E_laws_eqRootSL1]
theorem eqS_Root (vs : List TRoot) (hw : DC.wt (.sl (vs.map TRoot.enc)) ≤ 1048576) : r_laws_eqRootS [.sl (vs.map TRoot.enc), .sl (vs.map TRoot.enc)] = .ret [.b true] := eqS_Root' vs (fun v _ => eq_Root v) hw
theorem wsum_Def (v : TDef) : wtL (TDef.enc v) = v.desc.length + v.name.length + DC.wt (.sl (v.faces.map S1)) + DC.wt (.sl (v.fields.map TFieldDef.enc)) + DC.wt (.sl (v.inputs.map TInDef.enc)) + DC.wt (.sl (v.values.map TEnumDef.enc)) + DC.wt (.sl (v.roots.map TRoot.enc)) + DC.wt (.sl (v.dirs.map TDir.enc)) := by
  simp only [TDef.enc_eq, wtL, DC.wt]
  try omega
theorem sz_Def (v : TDef) : okL (TDef.enc v) → ∀ left : Int, 0 ≤ left → left ≤ 1048576 → r_laws_szDef [.i v.kind, .b v.ext, .s v.desc, .s v.name, .sl (v.faces.map S1), .sl (v.fields.map TFieldDef.enc), .sl (v.inputs.map TInDef.enc), .sl (v.values.map TEnumDef.enc), .sl (v.roots.map TRoot.enc), .b v.repeat', .sl (v.dirs.map TDir.enc), .i left] = .ret [.i (szR left (wtL (TDef.enc v)))] := by
  intro ok left h0 h1
  rw [TDef.enc_eq] at ok
  simp only [okL] at ok
  rw [eq_laws_szDef]
  simp only [E_laws_szDef, zz0, zz1, zb, zi, zs, zl]
  rw [wsum_Def]
  have b0 : v.desc.length ≤ 9223372036854775807 := by simpa only [DC.ok] using ok.2.2.1
  have b1 : v.name.length ≤ 9223372036854775807 := by simpa only [DC.ok] using ok.2.2.2.1
  rw [show IntKind.i64.wrap (left - (v.desc.length : Int)) = left - (v.desc.length : Int) from wrap64 (by omega) (by omega)]
  by_cases c0 : left < ((v.desc.length : Nat) : Int)
  · have c0' : left - ((v.desc.length : Nat) : Int) < 0 := by omega
    simp only [c0', decide_true, if_true]
    try rw [szR_lt (by omega)]
  have c0' : ¬ left - ((v.desc.length : Nat) : Int) < 0 := by omega
  simp only [c0', decide_false, zf, if_false]
  rw [show IntKind.i64.wrap ((left - ((v.desc.length : Nat) : Int)) - (v.name.length : Int)) = (left - ((v.desc.length : Nat) : Int)) - (v.name.length : Int) from wrap64 (by omega) (by omega)]
  by_cases c1 : (left - ((v.desc.length : Nat) : Int)) < ((v.name.length : Nat) : Int)
  · have c1' : (left - ((v.desc.length : Nat) : Int)) - ((v.name.length : Nat) : Int) < 0 := by omega
    simp only [c1', decide_true, if_true]
    try rw [szR_lt (by omega)]
  have c1' : ¬ (left - ((v.desc.length : Nat) : Int)) - ((v.name.length : Nat) : Int) < 0 := by omega
  simp only [c1', decide_false, zf, if_false]
  rw [szS_String v.faces ok.2.2.2.2.1 (((left - ((v.desc.length : Nat) : Int)) - ((v.name.length : Nat) : Int))) (by omega) (by omega)]
  simp only [Out.bindR_ret, zz0, zz1, zb, zi, zs, zl]
  by_cases c2 : ((left - ((v.desc.length : Nat) : Int)) - ((v.name.length : Nat) : Int)) < ((DC.wt (.sl (v.faces.map S1)) : Nat) : Int)
  · rw [szR_lt c2]
    simp only [show (-1 : Int) < 0 by omega, decide_true, if_true]
    try rw [szR_lt (by omega)]
  rw [szR_ge c2]
  have c2' : ¬ ((left - ((v.desc.length : Nat) : Int)) - ((v.name.length : Nat) : Int)) - ((DC.wt (.sl (v.faces.map S1)) : Nat) : Int) < 0 := by omega
  simp only [c2', decide_false, zf, if_false]
  rw [szS_FieldDef v.fields ok.2.2.2.2.2.1 ((((left - ((v.desc.length : Nat) : Int)) - ((v.name.length : Nat) : Int)) - ((DC.wt (.sl (v.faces.map S1)) : Nat) : Int))) (by omega) (by omega)]
  simp only [Out.bindR_ret, zz0, zz1, zb, zi, zs, zl]
  by_cases c3 : (((left - ((v.desc.length : Nat) : Int)) - ((v.name.length : Nat) : Int)) - ((DC.wt (.sl (v.faces.map S1)) : Nat) : Int)) < ((DC.wt (.sl (v.fields.map TFieldDef.enc)) : Nat) : Int)
  · rw [szR_lt c3]
    simp only [show (-1 : Int) < 0 by omega, decide_true, if_true]
    try rw [szR_lt (by omega)]
  rw [szR_ge c3]
  have c3' : ¬ (((left - ((v.desc.length : Nat) : Int)) - ((v.name.length : Nat) : Int)) - ((DC.wt (.sl (v.faces.map S1)) : Nat) : Int)) - ((DC.wt (.sl (v.fields.map TFieldDef.enc)) : Nat) : Int) < 0 := by omega
  simp only [c3', decide_false, zf, if_false]
  rw [szS_InDef v.inputs ok.2.2.2.2.2.2.1 (((((left - ((v.desc.length : Nat) : Int)) - ((v.name.length : Nat) : Int)) - ((DC.wt (.sl (v.faces.map S1)) : Nat) : Int)) - ((DC.wt (.sl (v.fields.map TFieldDef.enc)) : Nat) : Int))) (by omega) (by omega)]
  simp only [Out.bindR_ret, zz0, zz1, zb, zi, zs, zl]
  by_cases c4 : ((((left - ((v.desc.length : Nat) : Int)) - ((v.name.length : Nat) : Int)) - ((DC.wt (.sl (v.faces.map S1)) : Nat) : Int)) - ((DC.wt (.sl (v.fields.map TFieldDef.enc)) : Nat) : Int)) < ((DC.wt (.sl (v.inputs.map TInDef.enc)) : Nat) : Int)
  · rw [szR_lt c4]
    simp only [show (-1 : Int) < 0 by omega, decide_true, if_true]
    try rw [szR_lt (by omega)]
  rw [szR_ge c4]
  have c4' : ¬ ((((left - ((v.desc.length : Nat) : Int)) - ((v.name.length : Nat) : Int)) - ((DC.wt (.sl (v.faces.map S1)) : Nat) : Int)) - ((DC.wt (.sl (v.fields.map TFieldDef.enc)) : Nat) : Int)) - ((DC.wt (.sl (v.inputs.map TInDef.enc)) : Nat) : Int) < 0 := by omega
  simp only [c4', decide_false, zf, if_false]
  rw [szS_EnumDef v.values ok.2.2.2.2.2.2.2.1 ((((((left - ((v.desc.length : Nat) : Int)) - ((v.name.length : Nat) : Int)) - ((DC.wt (.sl (v.faces.map S1)) : Nat) : Int)) - ((DC.wt (.sl (v.fields.map TFieldDef.enc)) : Nat) : Int)) - ((DC.wt (.sl (v.inputs.map TInDef.enc)) : Nat) : Int))) (by omega) (by omega)]
  simp only [Out.bindR_ret, zz0, zz1, zb, zi, zs, zl]
  by_cases c5 : (((((left - ((v.desc.length : Nat) : Int)) - ((v.name.length : Nat) : Int)) - ((DC.wt (.sl (v.faces.map S1)) : Nat) : Int)) - ((DC.wt (.sl (v.fields.map TFieldDef.enc)) : Nat) : Int)) - ((DC.wt (.sl (v.inputs.map TInDef.enc)) : Nat) : Int)) < ((DC.wt (.sl (v.values.map TEnumDef.enc)) : Nat) : Int)
  · rw [szR_lt c5]
    simp only [show (-1 : Int) < 0 by omega, decide_true, if_true]
    try rw [szR_lt (by omega)]
  rw [szR_ge c5]
  have c5' : ¬ (((((left - ((v.desc.length : Nat) : Int)) - ((v.name.length : Nat) : Int)) - ((DC.wt (.sl (v.faces.map S1)) : Nat) : Int)) - ((DC.wt (.sl (v.fields.map TFieldDef.enc)) : Nat) : Int)) - ((DC.wt (.sl (v.inputs.map TInDef.enc)) : Nat) : Int)) - ((DC.wt (.sl (v.values.map TEnumDef.enc)) : Nat) : Int) < 0 := by omega
  simp only [c5', decide_false, zf, if_false]
  rw [szS_Root v.roots ok.2.2.2.2.2.2.2.2.1 (((((((left - ((v.desc.length : Nat) : Int)) - ((v.name.length : Nat) : Int)) - ((DC.wt (.sl (v.faces.map S1)) : Nat) : Int)) - ((DC.wt (.sl (v.fields.map TFieldDef.enc)) : Nat) : Int)) - ((DC.wt (.sl (v.inputs.map TInDef.enc)) : Nat) : Int)) - ((DC.wt (.sl (v.values.map TEnumDef.enc)) : Nat) : Int))) (by omega) (by omega)]
  simp only [Out.bindR_ret, zz0, zz1, zb, zi, zs, zl]
  by_cases c6 : ((((((left - ((v.desc.length : Nat) : Int)) - ((v.name.length : Nat) : Int)) - ((DC.wt (.sl (v.faces.map S1)) : Nat) : Int)) - ((DC.wt (.sl (v.fields.map TFieldDef.enc)) : Nat) : Int)) - ((DC.wt (.sl (v.inputs.map TInDef.enc)) : Nat) : Int)) - ((DC.wt (.sl (v.values.map TEnumDef.enc)) : Nat) : Int)) < ((DC.wt (.sl (v.roots.map TRoot.enc)) : Nat) : Int)
  · rw [szR_lt c6]
    simp only [show (-1 : Int) < 0 by omega, decide_true, if_true]
    try rw [szR_lt (by omega)]
  rw [szR_ge c6]
  have c6' : ¬ ((((((left - ((v.desc.length : Nat) : Int)) - ((v.name.length : Nat) : Int)) - ((DC.wt (.sl (v.faces.map S1)) : Nat) : Int)) - ((DC.wt (.sl (v.fields.map TFieldDef.enc)) : Nat) : Int)) - ((DC.wt (.sl (v.inputs.map TInDef.enc)) : Nat) : Int)) - ((DC.wt (.sl (v.values.map TEnumDef.enc)) : Nat) : Int)) - ((DC.wt (.sl (v.roots.map TRoot.enc)) : Nat) : Int) < 0 := by omega
  simp only [c6', decide_false, zf, if_false]
  rw [szS_Dir v.dirs ok.2.2.2.2.2.2.2.2.2.2.1 ((((((((left - ((v.desc.length : Nat) : Int)) - ((v.name.length : Nat) : Int)) - ((DC.wt (.sl (v.faces.map S1)) : Nat) : Int)) - ((DC.wt (.sl (v.fields.map TFieldDef.enc)) : Nat) : Int)) - ((DC.wt (.sl (v.inputs.map TInDef.enc)) : Nat) : Int)) - ((DC.wt (.sl (v.values.map TEnumDef.enc)) : Nat) : Int)) - ((DC.wt (.sl (v.roots.map TRoot.enc)) : Nat) : Int))) (by omega) (by omega)]
  simp only [Out.bindR_ret, zz0, zz1, zb, zi, zs, zl]
  by_cases c7 : (((((((left - ((v.desc.length : Nat) : Int)) - ((v.name.length : Nat) : Int)) - ((DC.wt (.sl (v.faces.map S1)) : Nat) : Int)) - ((DC.wt (.sl (v.fields.map TFieldDef.enc)) : Nat) : Int)) - ((DC.wt (.sl (v.inputs.map TInDef.enc)) : Nat) : Int)) - ((DC.wt (.sl (v.values.map TEnumDef.enc)) : Nat) : Int)) - ((DC.wt (.sl (v.roots.map TRoot.enc)) : Nat) : Int)) < ((DC.wt (.sl (v.dirs.map TDir.enc)) : Nat) : Int)
  · rw [szR_lt c7]
    simp only [show (-1 : Int) < 0 by omega, decide_true, if_true]
    try rw [szR_lt (by omega)]
  rw [szR_ge c7]
  have c7' : ¬ (((((((left - ((v.desc.length : Nat) : Int)) - ((v.name.length : Nat) : Int)) - ((DC.wt (.sl (v.faces.map S1)) : Nat) : Int)) - ((DC.wt (.sl (v.fields.map TFieldDef.enc)) : Nat) : Int)) - ((DC.wt (.sl (v.inputs.map TInDef.enc)) : Nat) : Int)) - ((DC.wt (.sl (v.values.map TEnumDef.enc)) : Nat) : Int)) - ((DC.wt (.sl (v.roots.map TRoot.enc)) : Nat) : Int)) - ((DC.wt (.sl (v.dirs.map TDir.enc)) : Nat) : Int) < 0 := by omega
  simp only [c7', decide_false, zf, if_false]
  first
  | done
  | rw [show szR left (v.desc.length + v.name.length + DC.wt (.sl (v.faces.map S1)) + DC.wt (.sl (v.fields.map TFieldDef.enc)) + DC.wt (.sl (v.inputs.map TInDef.enc)) + DC.wt (.sl (v.values.map TEnumDef.enc)) + DC.wt (.sl (v.roots.map TRoot.enc)) + DC.wt (.sl (v.dirs.map TDir.enc))) = ((((((((left - ((v.desc.length : Nat) : Int)) - ((v.name.length : Nat) : Int)) - ((DC.wt (.sl (v.faces.map S1)) : Nat) : Int)) - ((DC.wt (.sl (v.fields.map TFieldDef.enc)) : Nat) : Int)) - ((DC.wt (.sl (v.inputs.map TInDef.enc)) : Nat) : Int)) - ((DC.wt (.sl (v.values.map TEnumDef.enc)) : Nat) : Int)) - ((DC.wt (.sl (v.roots.map TRoot.enc)) : Nat) : Int)) - ((DC.wt (.sl (v.dirs.map TDir.enc)) : Nat) : Int)) from (szR_ge (by omega)).trans (by omega)]
theorem to_Def (v : TDef) : wtL (TDef.enc v) ≤ 1048576 → r_laws_toDef [.i v.kind, .b v.ext, .s v.desc, .s v.name, .sl (v.faces.map S1), .sl (v.fields.map TFieldDef.enc), .sl (v.inputs.map TInDef.enc), .sl (v.values.map TEnumDef.enc), .sl (v.roots.map TRoot.enc), .b v.repeat', .sl (v.dirs.map TDir.enc)] = .ret (TDef.enc v) := by
  intro hw
  rw [wsum_Def] at hw
  rw [eq_laws_toDef]
  simp only [E_laws_toDef, zz0, zz1, zb, zi, zs, zl]
  rw [toS_String v.faces (by have h := hw; simp only [DC.wt, zm] at h; omega)]
  simp only [Out.bindR_ret, zz0, zz1, zb, zi, zs, zl]
  rw [toS_FieldDef v.fields (by omega)]
  simp only [Out.bindR_ret, zz0, zz1, zb, zi, zs, zl]
  rw [toS_InDef v.inputs (by omega)]
  simp only [Out.bindR_ret, zz0, zz1, zb, zi, zs, zl]
  rw [toS_EnumDef v.values (by omega)]
  simp only [Out.bindR_ret, zz0, zz1, zb, zi, zs, zl]
  rw [toS_Root v.roots (by omega)]
  simp only [Out.bindR_ret, zz0, zz1, zb, zi, zs, zl]
  rw [toS_Dir v.dirs (by omega)]
  simp only [Out.bindR_ret, zz0, zz1, zb, zi, zs, zl]
  rw [TDef.enc_eq]
theorem eq_Def (v : TDef) : wtL (TDef.enc v) ≤ 1048576 → r_laws_eqDef [.i v.kind, .b v.ext, .s v.desc, .s v.name, .sl (v.faces.map S1), .sl (v.fields.map TFieldDef.enc), .sl (v.inputs.map TInDef.enc), .sl (v.values.map TEnumDef.enc), .sl (v.roots.map TRoot.enc), .b v.repeat', .sl (v.dirs.map TDir.enc), .i v.kind, .b v.ext, .s v.desc, .s v.name, .sl (v.faces.map S1), .sl (v.fields.map TFieldDef.enc), .sl (v.inputs.map TInDef.enc), .sl (v.values.map TEnumDef.enc), .sl (v.roots.map TRoot.enc), .b v.repeat', .sl (v.dirs.map TDir.enc)] = .ret [.b true] := by
  intro hw
  rw [wsum_Def] at hw
  rw [eq_laws_eqDef]
  simp only [E_laws_eqDef, zz0, zz1, zb, zi, zs, zl, bne_self_eq_false, beq_self_eq_true, Bool.not_true, zf, if_false]
  rw [eqS_String v.faces (by have h := hw; simp only [DC.wt, zm] at h; omega)]
  simp only [Out.bindR_ret, zz0, zz1, zb, zi, zs, zl, bne_self_eq_false, beq_self_eq_true, Bool.not_true, zf, if_false]
  rw [eqS_FieldDef v.fields (by omega)]
  simp only [Out.bindR_ret, zz0, zz1, zb, zi, zs, zl, bne_self_eq_false, beq_self_eq_true, Bool.not_true, zf, if_false]
  rw [eqS_InDef v.inputs (by omega)]
  simp only [Out.bindR_ret, zz0, zz1, zb, zi, zs, zl, bne_self_eq_false, beq_self_eq_true, Bool.not_true, zf, if_false]
  rw [eqS_EnumDef v.values (by omega)]
  simp only [Out.bindR_ret, zz0, zz1, zb, zi, zs, zl, bne_self_eq_false, beq_self_eq_true, Bool.not_true, zf, if_false]
  rw [eqS_Root v.roots (by omega)]
  simp only [Out.bindR_ret, zz0, zz1, zb, zi, zs, zl, bne_self_eq_false, beq_self_eq_true, Bool.not_true, zf, if_false]
  rw [eqS_Dir v.dirs (by omega)]
  simp only [Out.bindR_ret, zz0, zz1, zb, zi, zs, zl, bne_self_eq_false, beq_self_eq_true, Bool.not_true, zf, if_false]
theorem wsum_Item (v : TItem) : wtL (TItem.enc v) = wtL (TOp.enc v.op) + wtL (TFrag.enc v.frag) + wtL (TDef.enc v.def') := by
  simp only [TItem.enc_eq, wtL, DC.wt, TOp.enc_eq, TFrag.enc_eq, TDef.enc_eq]
  try omega
theorem sz_Item (v : TItem) : okL (TItem.enc v) → ∀ left : Int, 0 ≤ left → left ≤ 1048576 → r_laws_szItem [.i v.kind, .i v.op.kind, .s v.op.name, .sl (v.op.vars.map TVarDef.enc), .sl (v.op.dirs.map TDir.enc), .sl (v.op.sels.map TSel.enc), .s v.frag.name, .s v.frag.on', .sl (v.frag.dirs.map TDir.enc), .sl (v.frag.sels.map TSel.enc), .i v.def'.kind, .b v.def'.ext, .s v.def'.desc, .s v.def'.name, .sl (v.def'.faces.map S1), .sl (v.def'.fields.map TFieldDef.enc), .sl (v.def'.inputs.map TInDef.enc), .sl (v.def'.values.map TEnumDef.enc), .sl (v.def'.roots.map TRoot.enc), .b v.def'.repeat', .sl (v.def'.dirs.map TDir.enc), .i left] = .ret [.i (szR left (wtL (TItem.enc v)))] := by
  intro ok left h0 h1
  rw [TItem.enc_eq] at ok
  simp only [okL] at ok
  rw [eq_laws_szItem]
  simp only [E_laws_szItem, zz0, zz1, zb, zi, zs, zl]
  rw [wsum_Item]
  rw [sz_Op v.op (by rw [TOp.enc_eq]; simp only [okL]; exact ⟨ok.2.1, ok.2.2.1, ok.2.2.2.1, ok.2.2.2.2.1, ok.2.2.2.2.2.1, trivial⟩) (left) (by omega) (by omega)]
  simp only [Out.bindR_ret, zz0, zz1, zb, zi, zs, zl]
  by_cases c0 : left < ((wtL (TOp.enc v.op) : Nat) : Int)
  · rw [szR_lt c0]
    simp only [show (-1 : Int) < 0 by omega, decide_true, if_true]
    try rw [szR_lt (by omega)]
  rw [szR_ge c0]
  have c0' : ¬ left - ((wtL (TOp.enc v.op) : Nat) : Int) < 0 := by omega
  simp only [c0', decide_false, zf, if_false]
  rw [sz_Frag v.frag (by rw [TFrag.enc_eq]; simp only [okL]; exact ⟨ok.2.2.2.2.2.2.1, ok.2.2.2.2.2.2.2.1, ok.2.2.2.2.2.2.2.2.1, ok.2.2.2.2.2.2.2.2.2.1, trivial⟩) ((left - ((wtL (TOp.enc v.op) : Nat) : Int))) (by omega) (by omega)]
  simp only [Out.bindR_ret, zz0, zz1, zb, zi, zs, zl]
  by_cases c1 : (left - ((wtL (TOp.enc v.op) : Nat) : Int)) < ((wtL (TFrag.enc v.frag) : Nat) : Int)
  · rw [szR_lt c1]
    simp only [show (-1 : Int) < 0 by omega, decide_true, if_true]
    try rw [szR_lt (by omega)]
  rw [szR_ge c1]
  have c1' : ¬ (left - ((wtL (TOp.enc v.op) : Nat) : Int)) - ((wtL (TFrag.enc v.frag) : Nat) : Int) < 0 := by omega
  simp only [c1', decide_false, zf, if_false]
  rw [sz_Def v.def' (by rw [TDef.enc_eq]; simp only [okL]; exact ⟨ok.2.2.2.2.2.2.2.2.2.2.1, ok.2.2.2.2.2.2.2.2.2.2.2.1, ok.2.2.2.2.2.2.2.2.2.2.2.2.1, ok.2.2.2.2.2.2.2.2.2.2.2.2.2.1, ok.2.2.2.2.2.2.2.2.2.2.2.2.2.2.1, ok.2.2.2.2.2.2.2.2.2.2.2.2.2.2.2.1, ok.2.2.2.2.2.2.2.2.2.2.2.2.2.2.2.2.1, ok.2.2.2.2.2.2.2.2.2.2.2.2.2.2.2.2.2.1, ok.2.2.2.2.2.2.2.2.2.2.2.2.2.2.2.2.2.2.1, ok.2.2.2.2.2.2.2.2.2.2.2.2.2.2.2.2.2.2.2.1, ok.2.2.2.2.2.2.2.2.2.2.2.2.2.2.2.2.2.2.2.2.1, trivial⟩) (((left - ((wtL (TOp.enc v.op) : Nat) : Int)) - ((wtL (TFrag.enc v.frag) : Nat) : Int))) (by omega) (by omega)]
  simp only [Out.bindR_ret, zz0, zz1, zb, zi, zs, zl]
  by_cases c2 : ((left - ((wtL (TOp.enc v.op) : Nat) : Int)) - ((wtL (TFrag.enc v.frag) : Nat) : Int)) < ((wtL (TDef.enc v.def') : Nat) : Int)
  · rw [szR_lt c2]
    simp only [show (-1 : Int) < 0 by omega, decide_true, if_true]
    try rw [szR_lt (by omega)]
  rw [szR_ge c2]
  have c2' : ¬ ((left - ((wtL (TOp.enc v.op) : Nat) : Int)) - ((wtL (TFrag.enc v.frag) : Nat) : Int)) - ((wtL (TDef.enc v.def') : Nat) : Int) < 0 := by omega
  simp only [c2', decide_false, zf, if_false]
  first
  | done
  | rw [show szR left (wtL (TOp.enc v.op) + wtL (TFrag.enc v.frag) + wtL (TDef.enc v.def')) = (((left - ((wtL (TOp.enc v.op) : Nat) : Int)) - ((wtL (TFrag.enc v.frag) : Nat) : Int)) - ((wtL (TDef.enc v.def') : Nat) : Int)) from (szR_ge (by omega)).trans (by omega)]
theorem szS_Item' (vs : List TItem) (hs : ∀ v ∈ vs, okL (TItem.enc v) → ∀ left : Int, 0 ≤ left → left ≤ 1048576 → r_laws_szItem [.i v.kind, .i v.op.kind, .s v.op.name, .sl (v.op.vars.map TVarDef.enc), .sl (v.op.dirs.map TDir.enc), .sl (v.op.sels.map TSel.enc), .s v.frag.name, .s v.frag.on', .sl (v.frag.dirs.map TDir.enc), .sl (v.frag.sels.map TSel.enc), .i v.def'.kind, .b v.def'.ext, .s v.def'.desc, .s v.def'.name, .sl (v.def'.faces.map S1), .sl (v.def'.fields.map TFieldDef.enc), .sl (v.def'.inputs.map TInDef.enc), .sl (v.def'.values.map TEnumDef.enc), .sl (v.def'.roots.map TRoot.enc), .b v.def'.repeat', .sl (v.def'.dirs.map TDir.enc), .i left] = .ret [.i (szR left (wtL (TItem.enc v)))]) (ok : (DC.sl (vs.map TItem.enc)).ok) (left : Int) (h0 : 0 ≤ left) (h1 : left ≤ 1048576) : r_laws_szItemS [.sl (vs.map TItem.enc), .i left] = .ret [.i (szR left (DC.wt (.sl (vs.map TItem.enc))))] := by
  rw [DC.ok, zm] at ok
  obtain ⟨hl, ok⟩ := ok
  rw [eq_laws_szItemS]
  simp only [E_laws_szItemS, zz0, zz1, zb, zi, zs, zl]
  refine szS_all hl (fun i hi left h0 h1 => ?_) (fun left => ?_) h0 h1
  · have key := hs vs[i] (List.getElem_mem hi) (okV_mem ok _ (List.mem_map_of_mem (List.getElem_mem hi))) left h0 h1
    generalize wtL (TItem.enc vs[i]) = w at key ⊢
    have hc1 : (i : Int) < (vs.length : Int) := by omega
    simp only [E_laws_szItemSL1, zz0, zz1, zb, zi, zs, zl, Int.toNat_natCast, zm, map_getD hi, TItem.enc_eq, key, Out.bindR_ret]
    by_cases hc : left < (w : Int)
    · simp [hi, hc1, hc, szR_lt hc]
    · simp [hi, hc1, hc, szR_ge hc, show ¬ left - (w : Int) < 0 by omega, wrap_succ hi hl]
  · simp [E_laws_szItemSL1]
theorem szS_Item (vs : List TItem) (ok : (DC.sl (vs.map TItem.enc)).ok) (left : Int) (h0 : 0 ≤ left) (h1 : left ≤ 1048576) : r_laws_szItemS [.sl (vs.map TItem.enc), .i left] = .ret [.i (szR left (DC.wt (.sl (vs.map TItem.enc))))] := szS_Item' vs (fun v _ => sz_Item v) ok left h0 h1
theorem to_Item (v : TItem) : wtL (TItem.enc v) ≤ 1048576 → r_laws_toItem [.i v.kind, .i v.op.kind, .s v.op.name, .sl (v.op.vars.map TVarDef.enc), .sl (v.op.dirs.map TDir.enc), .sl (v.op.sels.map TSel.enc), .s v.frag.name, .s v.frag.on', .sl (v.frag.dirs.map TDir.enc), .sl (v.frag.sels.map TSel.enc), .i v.def'.kind, .b v.def'.ext, .s v.def'.desc, .s v.def'.name, .sl (v.def'.faces.map S1), .sl (v.def'.fields.map TFieldDef.enc), .sl (v.def'.inputs.map TInDef.enc), .sl (v.def'.values.map TEnumDef.enc), .sl (v.def'.roots.map TRoot.enc), .b v.def'.repeat', .sl (v.def'.dirs.map TDir.enc)] = .ret (TItem.enc v) := by
  intro hw
  rw [wsum_Item] at hw
  rw [eq_laws_toItem]
  simp only [E_laws_toItem, zz0, zz1, zb, zi, zs, zl]
  rw [to_Op v.op (by omega)]
  simp only [Out.bindR_ret, TOp.enc_eq, zz0, zz1, zb, zi, zs, zl]
  rw [to_Frag v.frag (by omega)]
  simp only [Out.bindR_ret, TFrag.enc_eq, zz0, zz1, zb, zi, zs, zl]
  rw [to_Def v.def' (by omega)]
  simp only [Out.bindR_ret, TDef.enc_eq, zz0, zz1, zb, zi, zs, zl]
  rw [TItem.enc_eq]
theorem toS_Item' (vs : List TItem) (hs : ∀ v ∈ vs, wtL (TItem.enc v) ≤ 1048576 → r_laws_toItem [.i v.kind, .i v.op.kind, .s v.op.name, .sl (v.op.vars.map TVarDef.enc), .sl (v.op.dirs.map TDir.enc), .sl (v.op.sels.map TSel.enc), .s v.frag.name, .s v.frag.on', .sl (v.frag.dirs.map TDir.enc), .sl (v.frag.sels.map TSel.enc), .i v.def'.kind, .b v.def'.ext, .s v.def'.desc, .s v.def'.name, .sl (v.def'.faces.map S1), .sl (v.def'.fields.map TFieldDef.enc), .sl (v.def'.inputs.map TInDef.enc), .sl (v.def'.values.map TEnumDef.enc), .sl (v.def'.roots.map TRoot.enc), .b v.def'.repeat', .sl (v.def'.dirs.map TDir.enc)] = .ret (TItem.enc v)) (hw : DC.wt (.sl (vs.map TItem.enc)) ≤ 1048576) : r_laws_toItemS [.sl (vs.map TItem.enc)] = .ret [.sl (vs.map TItem.enc)] := by
  rw [DC.wt, zm] at hw
  have hl : vs.length ≤ 1048576 := by omega
  rw [eq_laws_toItemS]
  simp only [E_laws_toItemS, zz0, zz1, zb, zi, zs, zl]
  rw [if_pos ⟨by omega, by rw [zm]; exact lim_of hl, trivial, by omega, by omega⟩, Int.toNat_natCast, zm, show (0 : Int) = ((0 : Nat) : Int) from rfl, toS_loop hl (fun i hi cur h1 h2 => ?_) (fun cur => ?_)]
  · rfl
  · have key := hs vs[i] (List.getElem_mem hi) (by have := wtV_mem (List.mem_map_of_mem (f := TItem.enc) (List.getElem_mem hi)); omega)
    have hc1 : (i : Int) < (vs.length : Int) := by omega
    simp only [E_laws_toItemSL1, zz0, zz1, zb, zi, zs, zl, Int.toNat_natCast, zm, map_getD hi, h1, h2, TItem.enc_eq] at key ⊢
    simp only [key, zz0, zz1, zb, zi, zs, zl, Out.bindR_ret]
    simp [hi, hc1, wrap_succ hi (show vs.length ≤ 9223372036854775807 by omega), setRunD]
  · simp [E_laws_toItemSL1]
theorem toS_Item (vs : List TItem) (hw : DC.wt (.sl (vs.map TItem.enc)) ≤ 1048576) : r_laws_toItemS [.sl (vs.map TItem.enc)] = .ret [.sl (vs.map TItem.enc)] := toS_Item' vs (fun v _ => to_Item v) hw
theorem eq_Item (v : TItem) : wtL (TItem.enc v) ≤ 1048576 → r_laws_eqItem [.i v.kind, .i v.op.kind, .s v.op.name, .sl (v.op.vars.map TVarDef.enc), .sl (v.op.dirs.map TDir.enc), .sl (v.op.sels.map TSel.enc), .s v.frag.name, .s v.frag.on', .sl (v.frag.dirs.map TDir.enc), .sl (v.frag.sels.map TSel.enc), .i v.def'.kind, .b v.def'.ext, .s v.def'.desc, .s v.def'.name, .sl (v.def'.faces.map S1), .sl (v.def'.fields.map TFieldDef.enc), .sl (v.def'.inputs.map TInDef.enc), .sl (v.def'.values.map TEnumDef.enc), .sl (v.def'.roots.map TRoot.enc), .b v.def'.repeat', .sl (v.def'.dirs.map TDir.enc), .i v.kind, .i v.op.kind, .s v.op.name, .sl (v.op.vars.map TVarDef.enc), .sl (v.op.dirs.map TDir.enc), .sl (v.op.sels.map TSel.enc), .s v.frag.name, .s v.frag.on', .sl (v.frag.dirs.map TDir.enc), .sl (v.frag.sels.map TSel.enc), .i v.def'.kind, .b v.def'.ext, .s v.def'.desc, .s v.def'.name, .sl (v.def'.faces.map S1), .sl (v.def'.fields.map TFieldDef.enc), .sl (v.def'.inputs.map TInDef.enc), .sl (v.def'.values.map TEnumDef.enc), .sl (v.def'.roots.map TRoot.enc), .b v.def'.repeat', .sl (v.def'.dirs.map TDir.enc)] = .ret [.b true] := by
  intro hw
  rw [wsum_Item] at hw
  rw [eq_laws_eqItem]
  simp only [E_laws_eqItem, zz0, zz1, zb, zi, zs, zl, bne_self_eq_false, beq_self_eq_true, Bool.not_true, zf, if_false]
  rw [eq_Op v.op (by omega)]
  simp only [Out.bindR_ret, zz0, zz1, zb, zi, zs, zl, bne_self_eq_false, beq_self_eq_true, Bool.not_true, zf, if_false]
  rw [eq_Frag v.frag (by omega)]
  simp only [Out.bindR_ret, zz0, zz1, zb, zi, zs, zl, bne_self_eq_false, beq_self_eq_true, Bool.not_true, zf, if_false]
  rw [eq_Def v.def' (by omega)]
  simp only [Out.bindR_ret, zz0, zz1, zb, zi, zs, zl, bne_self_eq_false, beq_self_eq_true, Bool.not_true, zf, if_false]
theorem eqS_Item' (vs : List TItem) (hs : ∀ v ∈ vs, wtL (TItem.enc v) ≤ 1048576 → r_laws_eqItem [.i v.kind, .i v.op.kind, .s v.op.name, .sl (v.op.vars.map TVarDef.enc), .sl (v.op.dirs.map TDir.enc), .sl (v.op.sels.map TSel.enc), .s v.frag.name, .s v.frag.on', .sl (v.frag.dirs.map TDir.enc), .sl (v.frag.sels.map TSel.enc), .i v.def'.kind, .b v.def'.ext, .s v.def'.desc, .s v.def'.name, .sl (v.def'.faces.map S1), .sl (v.def'.fields.map TFieldDef.enc), .sl (v.def'.inputs.map TInDef.enc), .sl (v.def'.values.map TEnumDef.enc), .sl (v.def'.roots.map TRoot.enc), .b v.def'.repeat', .sl (v.def'.dirs.map TDir.enc), .i v.kind, .i v.op.kind, .s v.op.name, .sl (v.op.vars.map TVarDef.enc), .sl (v.op.dirs.map TDir.enc), .sl (v.op.sels.map TSel.enc), .s v.frag.name, .s v.frag.on', .sl (v.frag.dirs.map TDir.enc), .sl (v.frag.sels.map TSel.enc), .i v.def'.kind, .b v.def'.ext, .s v.def'.desc, .s v.def'.name, .sl (v.def'.faces.map S1), .sl (v.def'.fields.map TFieldDef.enc), .sl (v.def'.inputs.map TInDef.enc), .sl (v.def'.values.map TEnumDef.enc), .sl (v.def'.roots.map TRoot.enc), .b v.def'.repeat', .sl (v.def'.dirs.map TDir.enc)] = .ret [.b true]) (hw : DC.wt (.sl (vs.map TItem.enc)) ≤ 1048576) : r_laws_eqItemS [.sl (vs.map TItem.enc), .sl (vs.map TItem.enc)] = .ret [.b true] := by
  rw [DC.wt, zm] at hw
  have hl : vs.length ≤ 1048576 := by omega
  rw [eq_laws_eqItemS]
  simp only [E_laws_eqItemS, zz0, zz1, zb, zi, zs, zl]
  refine eqS_all (fun i hi => ?_) ?_
  · rw [zm] at hi
    have key := hs vs[i] (List.getElem_mem hi) (by have := wtV_mem (List.mem_map_of_mem (f := TItem.enc) (List.getElem_mem hi)); omega)
    have hc1 : (i : Int) < (vs.length : Int) := by omega
    simp only [E_laws_eqItemSL1, zz0, zz1, zb, zi, zs, zl, Int.toNat_natCast, zm, map_getD hi, TItem.enc_eq] at key ⊢
    simp only [key, zz0, zz1, zb, zi, zs, zl, Out.bindR_ret]
    simp [hi, hc1, wrap_succ hi (show vs.length ≤ 9223372036854775807 by omega)]
  · simp [E_laws_eqItemSL1]
theorem eqS_Item (vs : List TItem) (hw : DC.wt (.sl (vs.map TItem.enc)) ≤ 1048576) : r_laws_eqItemS [.sl (vs.map TItem.enc), .sl (vs.map TItem.enc)] = .ret [.b true] := eqS_Item' vs (fun v _ => eq_Item v) hw
theorem wsum_Doc (v : TDoc) : wtL (TDoc.enc v) = DC.wt (.sl (v.items.map TItem.enc)) := by
  simp only [TDoc.enc_eq, wtL, DC.wt]
  try omega
theorem sz_Doc (v : TDoc) : okL (TDoc.enc v) → ∀ left : Int, 0 ≤ left → left ≤ 1048576 → r_laws_szDoc [.sl (v.items.map TItem.enc), .i left] = .ret [.i (szR left (wtL (TDoc.enc v)))] := by
  intro ok left h0 h1
  rw [TDoc.enc_eq] at ok
  simp only [okL] at ok
  rw [eq_laws_szDoc]
  simp only [E_laws_szDoc, zz0, zz1, zb, zi, zs, zl]
  rw [wsum_Doc]
  rw [szS_Item v.items ok.1 (left) (by omega) (by omega)]
  simp only [Out.bindR_ret, zz0, zz1, zb, zi, zs, zl]
  by_cases c0 : left < ((DC.wt (.sl (v.items.map TItem.enc)) : Nat) : Int)
  · rw [szR_lt c0]
    simp only [show (-1 : Int) < 0 by omega, decide_true, if_true]
    try rw [szR_lt (by omega)]
  rw [szR_ge c0]
  have c0' : ¬ left - ((DC.wt (.sl (v.items.map TItem.enc)) : Nat) : Int) < 0 := by omega
  simp only [c0', decide_false, zf, if_false]
  first
  | done
  | rw [show szR left (DC.wt (.sl (v.items.map TItem.enc))) = (left - ((DC.wt (.sl (v.items.map TItem.enc)) : Nat) : Int)) from (szR_ge (by omega)).trans (by omega)]
theorem to_Doc (v : TDoc) : wtL (TDoc.enc v) ≤ 1048576 → r_laws_toDoc [.sl (v.items.map TItem.enc)] = .ret (TDoc.enc v) := by
  intro hw
  rw [wsum_Doc] at hw
  rw [eq_laws_toDoc]
  simp only [E_laws_toDoc, zz0, zz1, zb, zi, zs, zl]
  rw [toS_Item v.items (by omega)]
  simp only [Out.bindR_ret, zz0, zz1, zb, zi, zs, zl]
  rw [TDoc.enc_eq]
theorem eq_Doc (v : TDoc) : wtL (TDoc.enc v) ≤ 1048576 → r_laws_eqDoc [.sl (v.items.map TItem.enc), .sl (v.items.map TItem.enc)] = .ret [.b true] := by
  intro hw
  rw [wsum_Doc] at hw
  rw [eq_laws_eqDoc]
  simp only [E_laws_eqDoc, zz0, zz1, zb, zi, zs, zl, bne_self_eq_false, beq_self_eq_true, Bool.not_true, zf, if_false]
  rw [eqS_Item v.items (by omega)]
  simp only [Out.bindR_ret, zz0, zz1, zb, zi, zs, zl, bne_self_eq_false, beq_self_eq_true, Bool.not_true, zf, if_false]
mutual
theorem wfc_ok {ty : Nat → Option TI} : ∀ {t : CT} {c : DC}, WfC ty t c → c.ok
  | _, _, .b x => by simp [DC.ok]
  | _, _, .i k n _ _ => by simp [DC.ok]
  | _, _, .s l h => by rw [DC.ok]; simpa [maxLen] using h
  | _, _, .sl e te l h1 h2 h3 => by rw [DC.ok]; exact ⟨by simpa [maxLen] using h2, wfv_ok h3⟩
  | _, _, .nil e => by rw [DC.ok]; exact ⟨by simp, by rw [okV]; trivial⟩
theorem wfl_ok {ty : Nat → Option TI} : ∀ {ts : List CT} {x : List DC}, WfL ty ts x → okL x
  | _, _, .nil => by rw [okL]; trivial
  | _, _, .cons t ts x xs h1 h2 => by rw [okL]; exact ⟨wfc_ok h1, wfl_ok h2⟩
theorem wfv_ok {ty : Nat → Option TI} : ∀ {ts : List CT} {l : List (List DC)}, WfV ty ts l → okV l
  | _, _, .nil ts => by rw [okV]; trivial
  | _, _, .cons ts x l h1 h2 => by rw [okV]; exact ⟨wfl_ok h1, wfv_ok h2⟩
end
theorem decV {α : Type} {ty : Nat → Option TI} {enc : α → List DC} {cts : List CT} : ∀ {l : List (List DC)}, (∀ x ∈ l, WfL ty cts x → ∃ v, x = enc v) → WfV ty cts l → ∃ vs : List α, l = vs.map enc
  | [], _, _ => ⟨[], rfl⟩
  | x :: l, h, hw => by
    cases hw with
    | cons ts x l h1 h2 =>
      obtain ⟨v, hv⟩ := h x (by simp) h1
      obtain ⟨vs, hvs⟩ := decV (fun y hy => h y (by simp [hy])) h2
      exact ⟨v :: vs, by rw [List.map_cons, hv, hvs]⟩
theorem decC {α : Type} {ty : Nat → Option TI} {enc : α → List DC} {e : Nat} {te : TI} {c : DC} (hte : ty e = some te) (h : ∀ l, c = .sl l → ∀ x ∈ l, WfL ty te.cts x → ∃ v, x = enc v) (hw : WfC ty (.sl e) c) : ∃ vs : List α, c = .sl (vs.map enc) := by
  cases hw with
  | sl e te' l h1 h2 h3 =>
    rw [hte] at h1
    obtain rfl := Option.some.inj h1
    obtain ⟨vs, hvs⟩ := decV (h l rfl) h3
    exact ⟨vs, by rw [hvs]⟩
  | nil => exact ⟨[], rfl⟩
theorem dec_i {ty : Nat → Option TI} {k : IntKind} {c : DC} (h : WfC ty (.i k) c) : ∃ n, c = .i n ∧ k.min ≤ n ∧ n ≤ k.max := by
  cases h with
  | i k n h1 h2 => exact ⟨n, rfl, h1, h2⟩
theorem dec_b {ty : Nat → Option TI} {c : DC} (h : WfC ty .b c) : ∃ n, c = .b n := by cases h; exact ⟨_, rfl⟩
theorem dec_s {ty : Nat → Option TI} {c : DC} (h : WfC ty .s c) : ∃ n, c = .s n := by cases h; exact ⟨_, rfl⟩
theorem dec_S1 {ty : Nat → Option TI} {x : List DC} (h : WfL ty [.s] x) : ∃ n, x = S1 n := by
  cases h with
  | cons t ts x xs h1 h2 =>
    cases h2
    obtain ⟨n, rfl⟩ := dec_s h1
    exact ⟨n, rfl⟩
theorem wfl_cons {ty : Nat → Option TI} {t : CT} {ts : List CT} {x : List DC} (h : WfL ty (t :: ts) x) : ∃ c xs, x = c :: xs ∧ WfC ty t c ∧ WfL ty ts xs := by
  cases h with
  | cons t ts x xs h1 h2 => exact ⟨x, xs, rfl, h1, h2⟩
theorem wfl_nil {ty : Nat → Option TI} {x : List DC} (h : WfL ty [] x) : x = [] := by cases h; rfl
theorem mem_row_lt {l : List (List DC)} {x : List DC} (h : x ∈ l) : SizeOf.sizeOf x < SizeOf.sizeOf (DC.sl l) := by
  have := List.sizeOf_lt_of_mem h
  simp only [DC.sl.sizeOf_spec]
  omega
theorem tyS : cfg.ty 9 = some ⟨.str, [.s], 16, [], false⟩ := by kernel_rfl
theorem ty_Value : cfg.ty 108 = some ⟨.struct, [.i .i64, .s, .sl 108, .sl 9], 72, [(0, 1, false), (1, 1, false), (2, 1, false), (3, 1, false)], false⟩ := by kernel_rfl
theorem dec_Value {x : List DC} (h0 : WfL cfg.ty [.i .i64, .s, .sl 108, .sl 9] x) : ∃ v : TValue, x = TValue.enc v := by
  have h := h0
  obtain ⟨c0, r0, e0, w0, h⟩ := wfl_cons h
  obtain ⟨n0, rfl, _, _⟩ := dec_i w0
  obtain ⟨c1, r1, e1, w1, h⟩ := wfl_cons h
  obtain ⟨n1, rfl⟩ := dec_s w1
  obtain ⟨c2, r2, e2, w2, h⟩ := wfl_cons h
  have hrec2 : ∀ l, c2 = .sl l → ∀ y ∈ l, WfL cfg.ty [.i .i64, .s, .sl 108, .sl 9] y → ∃ v : TValue, y = TValue.enc v := fun l hl y hy hw => by
    have hlt : SizeOf.sizeOf y < SizeOf.sizeOf x := by
      have := mem_row_lt hy
      rw [← hl] at this
      subst e0 e1 e2
      simp only [List.cons.sizeOf_spec]
      omega
    exact dec_Value hw
  obtain ⟨n2, rfl⟩ := decC (enc := TValue.enc) ty_Value hrec2 w2
  obtain ⟨c3, r3, e3, w3, h⟩ := wfl_cons h
  obtain ⟨n3, rfl⟩ := decC (enc := S1) tyS (fun l _ y hy hw => dec_S1 hw) w3
  have hn := wfl_nil h
  refine ⟨⟨n0, n1, n2, n3⟩, ?_⟩
  rw [TValue.enc_eq]
  subst hn
  simp only [e0, e1, e2, e3]
termination_by SizeOf.sizeOf x
theorem ty_Arg : cfg.ty 203 = some ⟨.struct, [.s, .i .i64, .s, .sl 108, .sl 9], 88, [(0, 1, false), (1, 4, true)], false⟩ := by kernel_rfl
theorem dec_Arg {x : List DC} (h0 : WfL cfg.ty [.s, .i .i64, .s, .sl 108, .sl 9] x) : ∃ v : TArg, x = TArg.enc v := by
  have h := h0
  obtain ⟨c0, r0, e0, w0, h⟩ := wfl_cons h
  obtain ⟨n0, rfl⟩ := dec_s w0
  obtain ⟨c1, r1, e1, w1, h⟩ := wfl_cons h
  obtain ⟨n1, rfl, _, _⟩ := dec_i w1
  obtain ⟨c2, r2, e2, w2, h⟩ := wfl_cons h
  obtain ⟨n2, rfl⟩ := dec_s w2
  obtain ⟨c3, r3, e3, w3, h⟩ := wfl_cons h
  obtain ⟨n3, rfl⟩ := decC (enc := TValue.enc) ty_Value (fun l _ y hy hw => dec_Value hw) w3
  obtain ⟨c4, r4, e4, w4, h⟩ := wfl_cons h
  obtain ⟨n4, rfl⟩ := decC (enc := S1) tyS (fun l _ y hy hw => dec_S1 hw) w4
  have hn := wfl_nil h
  refine ⟨⟨n0, ⟨n1, n2, n3, n4⟩⟩, ?_⟩
  rw [TArg.enc_eq]
  subst hn
  simp only [e0, e1, e2, e3, e4]
theorem ty_Dir : cfg.ty 119 = some ⟨.struct, [.s, .sl 203], 40, [(0, 1, false), (1, 1, false)], false⟩ := by kernel_rfl
theorem dec_Dir {x : List DC} (h0 : WfL cfg.ty [.s, .sl 203] x) : ∃ v : TDir, x = TDir.enc v := by
  have h := h0
  obtain ⟨c0, r0, e0, w0, h⟩ := wfl_cons h
  obtain ⟨n0, rfl⟩ := dec_s w0
  obtain ⟨c1, r1, e1, w1, h⟩ := wfl_cons h
  obtain ⟨n1, rfl⟩ := decC (enc := TArg.enc) ty_Arg (fun l _ y hy hw => dec_Arg hw) w1
  have hn := wfl_nil h
  refine ⟨⟨n0, n1⟩, ?_⟩
  rw [TDir.enc_eq]
  subst hn
  simp only [e0, e1]
theorem ty_Sel : cfg.ty 247 = some ⟨.struct, [.i .i64, .s, .s, .s, .sl 203, .sl 119, .sl 247], 128, [(0, 1, false), (1, 1, false), (2, 1, false), (3, 1, false), (4, 1, false), (5, 1, false), (6, 1, false)], false⟩ := by kernel_rfl
theorem dec_Sel {x : List DC} (h0 : WfL cfg.ty [.i .i64, .s, .s, .s, .sl 203, .sl 119, .sl 247] x) : ∃ v : TSel, x = TSel.enc v := by
  have h := h0
  obtain ⟨c0, r0, e0, w0, h⟩ := wfl_cons h
  obtain ⟨n0, rfl, _, _⟩ := dec_i w0
  obtain ⟨c1, r1, e1, w1, h⟩ := wfl_cons h
  obtain ⟨n1, rfl⟩ := dec_s w1
  obtain ⟨c2, r2, e2, w2, h⟩ := wfl_cons h
  obtain ⟨n2, rfl⟩ := dec_s w2
  obtain ⟨c3, r3, e3, w3, h⟩ := wfl_cons h
  obtain ⟨n3, rfl⟩ := dec_s w3
  obtain ⟨c4, r4, e4, w4, h⟩ := wfl_cons h
  obtain ⟨n4, rfl⟩ := decC (enc := TArg.enc) ty_Arg (fun l _ y hy hw => dec_Arg hw) w4
  obtain ⟨c5, r5, e5, w5, h⟩ := wfl_cons h
  obtain ⟨n5, rfl⟩ := decC (enc := TDir.enc) ty_Dir (fun l _ y hy hw => dec_Dir hw) w5
  obtain ⟨c6, r6, e6, w6, h⟩ := wfl_cons h
  have hrec6 : ∀ l, c6 = .sl l → ∀ y ∈ l, WfL cfg.ty [.i .i64, .s, .s, .s, .sl 203, .sl 119, .sl 247] y → ∃ v : TSel, y = TSel.enc v := fun l hl y hy hw => by
    have hlt : SizeOf.sizeOf y < SizeOf.sizeOf x := by
      have := mem_row_lt hy
      rw [← hl] at this
      subst e0 e1 e2 e3 e4 e5 e6
      simp only [List.cons.sizeOf_spec]
      omega
    exact dec_Sel hw
  obtain ⟨n6, rfl⟩ := decC (enc := TSel.enc) ty_Sel hrec6 w6
  have hn := wfl_nil h
  refine ⟨⟨n0, n1, n2, n3, n4, n5, n6⟩, ?_⟩
  rw [TSel.enc_eq]
  subst hn
  simp only [e0, e1, e2, e3, e4, e5, e6]
termination_by SizeOf.sizeOf x
theorem ty_VarDef : cfg.ty 244 = some ⟨.struct, [.s, .s, .s, .b, .i .i64, .s, .sl 108, .sl 9, .sl 119], 152, [(0, 1, false), (1, 2, true), (3, 1, false), (4, 4, true), (8, 1, false)], false⟩ := by kernel_rfl
theorem dec_VarDef {x : List DC} (h0 : WfL cfg.ty [.s, .s, .s, .b, .i .i64, .s, .sl 108, .sl 9, .sl 119] x) : ∃ v : TVarDef, x = TVarDef.enc v := by
  have h := h0
  obtain ⟨c0, r0, e0, w0, h⟩ := wfl_cons h
  obtain ⟨n0, rfl⟩ := dec_s w0
  obtain ⟨c1, r1, e1, w1, h⟩ := wfl_cons h
  obtain ⟨n1, rfl⟩ := dec_s w1
  obtain ⟨c2, r2, e2, w2, h⟩ := wfl_cons h
  obtain ⟨n2, rfl⟩ := dec_s w2
  obtain ⟨c3, r3, e3, w3, h⟩ := wfl_cons h
  obtain ⟨n3, rfl⟩ := dec_b w3
  obtain ⟨c4, r4, e4, w4, h⟩ := wfl_cons h
  obtain ⟨n4, rfl, _, _⟩ := dec_i w4
  obtain ⟨c5, r5, e5, w5, h⟩ := wfl_cons h
  obtain ⟨n5, rfl⟩ := dec_s w5
  obtain ⟨c6, r6, e6, w6, h⟩ := wfl_cons h
  obtain ⟨n6, rfl⟩ := decC (enc := TValue.enc) ty_Value (fun l _ y hy hw => dec_Value hw) w6
  obtain ⟨c7, r7, e7, w7, h⟩ := wfl_cons h
  obtain ⟨n7, rfl⟩ := decC (enc := S1) tyS (fun l _ y hy hw => dec_S1 hw) w7
  obtain ⟨c8, r8, e8, w8, h⟩ := wfl_cons h
  obtain ⟨n8, rfl⟩ := decC (enc := TDir.enc) ty_Dir (fun l _ y hy hw => dec_Dir hw) w8
  have hn := wfl_nil h
  refine ⟨⟨n0, ⟨n1, n2⟩, n3, ⟨n4, n5, n6, n7⟩, n8⟩, ?_⟩
  rw [TVarDef.enc_eq]
  subst hn
  simp only [e0, e1, e2, e3, e4, e5, e6, e7, e8]
theorem ty_InDef : cfg.ty 110 = some ⟨.struct, [.s, .s, .s, .s, .b, .i .i64, .s, .sl 108, .sl 9, .sl 119], 168, [(0, 1, false), (1, 1, false), (2, 2, true), (4, 1, false), (5, 4, true), (9, 1, false)], false⟩ := by kernel_rfl
theorem dec_InDef {x : List DC} (h0 : WfL cfg.ty [.s, .s, .s, .s, .b, .i .i64, .s, .sl 108, .sl 9, .sl 119] x) : ∃ v : TInDef, x = TInDef.enc v := by
  have h := h0
  obtain ⟨c0, r0, e0, w0, h⟩ := wfl_cons h
  obtain ⟨n0, rfl⟩ := dec_s w0
  obtain ⟨c1, r1, e1, w1, h⟩ := wfl_cons h
  obtain ⟨n1, rfl⟩ := dec_s w1
  obtain ⟨c2, r2, e2, w2, h⟩ := wfl_cons h
  obtain ⟨n2, rfl⟩ := dec_s w2
  obtain ⟨c3, r3, e3, w3, h⟩ := wfl_cons h
  obtain ⟨n3, rfl⟩ := dec_s w3
  obtain ⟨c4, r4, e4, w4, h⟩ := wfl_cons h
  obtain ⟨n4, rfl⟩ := dec_b w4
  obtain ⟨c5, r5, e5, w5, h⟩ := wfl_cons h
  obtain ⟨n5, rfl, _, _⟩ := dec_i w5
  obtain ⟨c6, r6, e6, w6, h⟩ := wfl_cons h
  obtain ⟨n6, rfl⟩ := dec_s w6
  obtain ⟨c7, r7, e7, w7, h⟩ := wfl_cons h
  obtain ⟨n7, rfl⟩ := decC (enc := TValue.enc) ty_Value (fun l _ y hy hw => dec_Value hw) w7
  obtain ⟨c8, r8, e8, w8, h⟩ := wfl_cons h
  obtain ⟨n8, rfl⟩ := decC (enc := S1) tyS (fun l _ y hy hw => dec_S1 hw) w8
  obtain ⟨c9, r9, e9, w9, h⟩ := wfl_cons h
  obtain ⟨n9, rfl⟩ := decC (enc := TDir.enc) ty_Dir (fun l _ y hy hw => dec_Dir hw) w9
  have hn := wfl_nil h
  refine ⟨⟨n0, n1, ⟨n2, n3⟩, n4, ⟨n5, n6, n7, n8⟩, n9⟩, ?_⟩
  rw [TInDef.enc_eq]
  subst hn
  simp only [e0, e1, e2, e3, e4, e5, e6, e7, e8, e9]
theorem ty_FieldDef : cfg.ty 104 = some ⟨.struct, [.s, .s, .sl 110, .s, .s, .sl 119], 112, [(0, 1, false), (1, 1, false), (2, 1, false), (3, 2, true), (5, 1, false)], false⟩ := by kernel_rfl
theorem dec_FieldDef {x : List DC} (h0 : WfL cfg.ty [.s, .s, .sl 110, .s, .s, .sl 119] x) : ∃ v : TFieldDef, x = TFieldDef.enc v := by
  have h := h0
  obtain ⟨c0, r0, e0, w0, h⟩ := wfl_cons h
  obtain ⟨n0, rfl⟩ := dec_s w0
  obtain ⟨c1, r1, e1, w1, h⟩ := wfl_cons h
  obtain ⟨n1, rfl⟩ := dec_s w1
  obtain ⟨c2, r2, e2, w2, h⟩ := wfl_cons h
  obtain ⟨n2, rfl⟩ := decC (enc := TInDef.enc) ty_InDef (fun l _ y hy hw => dec_InDef hw) w2
  obtain ⟨c3, r3, e3, w3, h⟩ := wfl_cons h
  obtain ⟨n3, rfl⟩ := dec_s w3
  obtain ⟨c4, r4, e4, w4, h⟩ := wfl_cons h
  obtain ⟨n4, rfl⟩ := dec_s w4
  obtain ⟨c5, r5, e5, w5, h⟩ := wfl_cons h
  obtain ⟨n5, rfl⟩ := decC (enc := TDir.enc) ty_Dir (fun l _ y hy hw => dec_Dir hw) w5
  have hn := wfl_nil h
  refine ⟨⟨n0, n1, n2, ⟨n3, n4⟩, n5⟩, ?_⟩
  rw [TFieldDef.enc_eq]
  subst hn
  simp only [e0, e1, e2, e3, e4, e5]
theorem ty_EnumDef : cfg.ty 113 = some ⟨.struct, [.s, .s, .sl 119], 56, [(0, 1, false), (1, 1, false), (2, 1, false)], false⟩ := by kernel_rfl
theorem dec_EnumDef {x : List DC} (h0 : WfL cfg.ty [.s, .s, .sl 119] x) : ∃ v : TEnumDef, x = TEnumDef.enc v := by
  have h := h0
  obtain ⟨c0, r0, e0, w0, h⟩ := wfl_cons h
  obtain ⟨n0, rfl⟩ := dec_s w0
  obtain ⟨c1, r1, e1, w1, h⟩ := wfl_cons h
  obtain ⟨n1, rfl⟩ := dec_s w1
  obtain ⟨c2, r2, e2, w2, h⟩ := wfl_cons h
  obtain ⟨n2, rfl⟩ := decC (enc := TDir.enc) ty_Dir (fun l _ y hy hw => dec_Dir hw) w2
  have hn := wfl_nil h
  refine ⟨⟨n0, n1, n2⟩, ?_⟩
  rw [TEnumDef.enc_eq]
  subst hn
  simp only [e0, e1, e2]
theorem ty_Root : cfg.ty 115 = some ⟨.struct, [.i .i64, .s], 24, [(0, 1, false), (1, 1, false)], false⟩ := by kernel_rfl
theorem dec_Root {x : List DC} (h0 : WfL cfg.ty [.i .i64, .s] x) : ∃ v : TRoot, x = TRoot.enc v := by
  have h := h0
  obtain ⟨c0, r0, e0, w0, h⟩ := wfl_cons h
  obtain ⟨n0, rfl, _, _⟩ := dec_i w0
  obtain ⟨c1, r1, e1, w1, h⟩ := wfl_cons h
  obtain ⟨n1, rfl⟩ := dec_s w1
  have hn := wfl_nil h
  refine ⟨⟨n0, n1⟩, ?_⟩
  rw [TRoot.enc_eq]
  subst hn
  simp only [e0, e1]
theorem ty_Item : cfg.ty 159 = some ⟨.struct, [.i .i64, .i .i64, .s, .sl 244, .sl 119, .sl 247, .s, .s, .sl 119, .sl 247, .i .i64, .b, .s, .s, .sl 9, .sl 104, .sl 110, .sl 113, .sl 115, .b, .sl 119], 384, [(0, 1, false), (1, 5, true), (6, 4, true), (10, 11, true)], false⟩ := by kernel_rfl
theorem dec_Item {x : List DC} (h0 : WfL cfg.ty [.i .i64, .i .i64, .s, .sl 244, .sl 119, .sl 247, .s, .s, .sl 119, .sl 247, .i .i64, .b, .s, .s, .sl 9, .sl 104, .sl 110, .sl 113, .sl 115, .b, .sl 119] x) : ∃ v : TItem, x = TItem.enc v := by
  have h := h0
  obtain ⟨c0, r0, e0, w0, h⟩ := wfl_cons h
  obtain ⟨n0, rfl, _, _⟩ := dec_i w0
  obtain ⟨c1, r1, e1, w1, h⟩ := wfl_cons h
  obtain ⟨n1, rfl, _, _⟩ := dec_i w1
  obtain ⟨c2, r2, e2, w2, h⟩ := wfl_cons h
  obtain ⟨n2, rfl⟩ := dec_s w2
  obtain ⟨c3, r3, e3, w3, h⟩ := wfl_cons h
  obtain ⟨n3, rfl⟩ := decC (enc := TVarDef.enc) ty_VarDef (fun l _ y hy hw => dec_VarDef hw) w3
  obtain ⟨c4, r4, e4, w4, h⟩ := wfl_cons h
  obtain ⟨n4, rfl⟩ := decC (enc := TDir.enc) ty_Dir (fun l _ y hy hw => dec_Dir hw) w4
  obtain ⟨c5, r5, e5, w5, h⟩ := wfl_cons h
  obtain ⟨n5, rfl⟩ := decC (enc := TSel.enc) ty_Sel (fun l _ y hy hw => dec_Sel hw) w5
  obtain ⟨c6, r6, e6, w6, h⟩ := wfl_cons h
  obtain ⟨n6, rfl⟩ := dec_s w6
  obtain ⟨c7, r7, e7, w7, h⟩ := wfl_cons h
  obtain ⟨n7, rfl⟩ := dec_s w7
  obtain ⟨c8, r8, e8, w8, h⟩ := wfl_cons h
  obtain ⟨n8, rfl⟩ := decC (enc := TDir.enc) ty_Dir (fun l _ y hy hw => dec_Dir hw) w8
  obtain ⟨c9, r9, e9, w9, h⟩ := wfl_cons h
  obtain ⟨n9, rfl⟩ := decC (enc := TSel.enc) ty_Sel (fun l _ y hy hw => dec_Sel hw) w9
  obtain ⟨c10, r10, e10, w10, h⟩ := wfl_cons h
  obtain ⟨n10, rfl, _, _⟩ := dec_i w10
  obtain ⟨c11, r11, e11, w11, h⟩ := wfl_cons h
  obtain ⟨n11, rfl⟩ := dec_b w11
  obtain ⟨c12, r12, e12, w12, h⟩ := wfl_cons h
  obtain ⟨n12, rfl⟩ := dec_s w12
  obtain ⟨c13, r13, e13, w13, h⟩ := wfl_cons h
  obtain ⟨n13, rfl⟩ := dec_s w13
  obtain ⟨c14, r14, e14, w14, h⟩ := wfl_cons h
  obtain ⟨n14, rfl⟩ := decC (enc := S1) tyS (fun l _ y hy hw => dec_S1 hw) w14
  obtain ⟨c15, r15, e15, w15, h⟩ := wfl_cons h
  obtain ⟨n15, rfl⟩ := decC (enc := TFieldDef.enc) ty_FieldDef (fun l _ y hy hw => dec_FieldDef hw) w15
  obtain ⟨c16, r16, e16, w16, h⟩ := wfl_cons h
  obtain ⟨n16, rfl⟩ := decC (enc := TInDef.enc) ty_InDef (fun l _ y hy hw => dec_InDef hw) w16
  obtain ⟨c17, r17, e17, w17, h⟩ := wfl_cons h
  obtain ⟨n17, rfl⟩ := decC (enc := TEnumDef.enc) ty_EnumDef (fun l _ y hy hw => dec_EnumDef hw) w17
  obtain ⟨c18, r18, e18, w18, h⟩ := wfl_cons h
  obtain ⟨n18, rfl⟩ := decC (enc := TRoot.enc) ty_Root (fun l _ y hy hw => dec_Root hw) w18
  obtain ⟨c19, r19, e19, w19, h⟩ := wfl_cons h
  obtain ⟨n19, rfl⟩ := dec_b w19
  obtain ⟨c20, r20, e20, w20, h⟩ := wfl_cons h
  obtain ⟨n20, rfl⟩ := decC (enc := TDir.enc) ty_Dir (fun l _ y hy hw => dec_Dir hw) w20
  have hn := wfl_nil h
  refine ⟨⟨n0, ⟨n1, n2, n3, n4, n5⟩, ⟨n6, n7, n8, n9⟩, ⟨n10, n11, n12, n13, n14, n15, n16, n17, n18, n19, n20⟩⟩, ?_⟩
  rw [TItem.enc_eq]
  subst hn
  simp only [e0, e1, e2, e3, e4, e5, e6, e7, e8, e9, e10, e11, e12, e13, e14, e15, e16, e17, e18, e19, e20]
theorem dec_Doc {x : List DC} (h0 : WfL cfg.ty [.sl 159] x) : ∃ v : TDoc, x = TDoc.enc v := by
  have h := h0
  obtain ⟨c0, r0, e0, w0, h⟩ := wfl_cons h
  obtain ⟨n0, rfl⟩ := decC (enc := TItem.enc) ty_Item (fun l _ y hy hw => dec_Item hw) w0
  have hn := wfl_nil h
  refine ⟨⟨n0⟩, ?_⟩
  rw [TDoc.enc_eq]
  subst hn
  simp only [e0]
theorem wfl_app {ty : Nat → Option TI} : ∀ {ts1 ts2 : List CT} {x : List DC}, WfL ty (ts1 ++ ts2) x → ∃ y z, x = y ++ z ∧ WfL ty ts1 y ∧ WfL ty ts2 z
  | [], ts2, x, h => ⟨[], x, rfl, .nil, h⟩
  | t :: ts1, ts2, x, h => by
    obtain ⟨c, xs, rfl, h1, h2⟩ := wfl_cons h
    obtain ⟨y, z, rfl, h3, h4⟩ := wfl_app h2
    exact ⟨c :: y, z, rfl, .cons _ _ _ _ h1 h3, h4⟩
theorem law_FnExactDocOk (d : List DC) (hd : WfL cfg.ty [.sl 159] d) : r_laws_FnExactDocOk d = .ret [.b true] := by
  obtain ⟨y0, z0, e0, w0, hd⟩ := wfl_app (ts1 := [.sl 159]) (ts2 := []) hd
  have hz := wfl_nil hd
  have k0 := wfl_ok w0
  obtain ⟨a0, g0⟩ := dec_Doc w0
  subst g0
  subst hz
  subst e0
  rw [eq_laws_FnExactDocOk]
  simp only [E_laws_FnExactDocOk, TDoc.enc_eq, List.cons_append, List.nil_append, List.append_nil, zz0, zz1, zb, zi, zs, zl]
  rw [sz_Doc a0 k0 (1048576) (by omega) (by omega)]
  simp only [Out.bindR_ret, zz0, zz1, zb, zi, zs, zl]
  by_cases s0 : (1048576 : Int) < ((wtL (TDoc.enc a0) : Nat) : Int)
  · rw [szR_lt s0]
    rfl
  rw [szR_ge s0]
  have s0' : ¬ (1048576 : Int) - ((wtL (TDoc.enc a0) : Nat) : Int) < 0 := by omega
  simp only [s0', decide_false, zf, if_false]
  have W0 : wtL (TDoc.enc a0) ≤ 1048576 := by omega
  have l0_items : a0.items.length ≤ 1048576 := by have h := W0; simp only [TDoc.enc_eq, wtL, DC.wt, zm] at h; omega
  have hs := spec_DocOk a0 W0
  have hi := impl_DocOk a0 W0
  simp only [to_Doc a0 W0, eq_Doc a0 W0, hs, hi, TDoc.enc_eq, zz0, zz1, zb, zi, zs, zl, Out.bindR_ret, bne_self_eq_false, beq_self_eq_true, Bool.not_true, zf, if_false]
end Go.Proofs.QV
