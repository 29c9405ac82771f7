/- Sameness of values, arguments, directives, definitions and schemas: what both implementations answer. -/
import Derived.Test.YtljggmbgbnmapaaGreatQ0
import Derived.Test.YtljggmbgbnmapaaGreatGG
namespace Go.Proofs.YtljggmbgbnmapaaGreatV
open Go
set_option linter.unusedVariables false
set_option linter.unusedSimpArgs false
set_option maxRecDepth 100000

theorem eqv_Value (a b : TValue) : eqv a b = (eqv a.kind b.kind && eqv a.text b.text && eqv a.items b.items && eqv a.names b.names) := by
  rw [Bool.eq_iff_iff, eqv_iff]
  simp only [Bool.and_eq_true, eqv_iff]
  cases a
  cases b
  simp only [TValue.mk.injEq, and_assoc]
theorem eqv_Type (a b : TType) : eqv a b = (eqv a.name b.name && eqv a.wraps b.wraps) := by
  rw [Bool.eq_iff_iff, eqv_iff]
  simp only [Bool.and_eq_true, eqv_iff]
  cases a
  cases b
  simp only [TType.mk.injEq, and_assoc]
theorem eqv_Arg (a b : TArg) : eqv a b = (eqv a.name b.name && eqv a.value b.value) := by
  rw [Bool.eq_iff_iff, eqv_iff]
  simp only [Bool.and_eq_true, eqv_iff]
  cases a
  cases b
  simp only [TArg.mk.injEq, and_assoc]
theorem eqv_Dir (a b : TDir) : eqv a b = (eqv a.name b.name && eqv a.args b.args) := by
  rw [Bool.eq_iff_iff, eqv_iff]
  simp only [Bool.and_eq_true, eqv_iff]
  cases a
  cases b
  simp only [TDir.mk.injEq, and_assoc]
theorem eqv_InDef (a b : TInDef) : eqv a b = (eqv a.name b.name && eqv a.desc b.desc && eqv a.type' b.type' && eqv a.has' b.has' && eqv a.default' b.default' && eqv a.dirs b.dirs) := by
  rw [Bool.eq_iff_iff, eqv_iff]
  simp only [Bool.and_eq_true, eqv_iff]
  cases a
  cases b
  simp only [TInDef.mk.injEq, and_assoc]
theorem eqv_FieldDef (a b : TFieldDef) : eqv a b = (eqv a.name b.name && eqv a.desc b.desc && eqv a.args b.args && eqv a.type' b.type' && eqv a.dirs b.dirs) := by
  rw [Bool.eq_iff_iff, eqv_iff]
  simp only [Bool.and_eq_true, eqv_iff]
  cases a
  cases b
  simp only [TFieldDef.mk.injEq, and_assoc]
theorem eqv_EnumDef (a b : TEnumDef) : eqv a b = (eqv a.name b.name && eqv a.desc b.desc && eqv a.dirs b.dirs) := by
  rw [Bool.eq_iff_iff, eqv_iff]
  simp only [Bool.and_eq_true, eqv_iff]
  cases a
  cases b
  simp only [TEnumDef.mk.injEq, and_assoc]
theorem eqv_Root (a b : TRoot) : eqv a b = (eqv a.kind b.kind && eqv a.type' b.type') := by
  rw [Bool.eq_iff_iff, eqv_iff]
  simp only [Bool.and_eq_true, eqv_iff]
  cases a
  cases b
  simp only [TRoot.mk.injEq, and_assoc]
theorem eqv_Def (a b : TDef) : eqv a b = (eqv a.kind b.kind && eqv a.ext b.ext && eqv a.desc b.desc && eqv a.name b.name && eqv a.faces b.faces && eqv a.fields b.fields && eqv a.inputs b.inputs && eqv a.values b.values && eqv a.roots b.roots && eqv a.repeat' b.repeat' && eqv a.dirs b.dirs) := by
  rw [Bool.eq_iff_iff, eqv_iff]
  simp only [Bool.and_eq_true, eqv_iff]
  cases a
  cases b
  simp only [TDef.mk.injEq, and_assoc]
theorem eqv_Schema (a b : TSchema) : eqv a b = (eqv a.types b.types && eqv a.dirs b.dirs && eqv a.roots b.roots) := by
  rw [Bool.eq_iff_iff, eqv_iff]
  simp only [Bool.and_eq_true, eqv_iff]
  cases a
  cases b
  simp only [TSchema.mk.injEq, and_assoc]
theorem slices_Equal_string_ok (l m : List (List UInt8)) (hl : l.length ≤ 1048576) : r_slices_Equal_string [.sl (l.map S1), .sl (m.map S1)] = .ret [.b (eqv l m)] := by
  rw [eq_slices_Equal_string]
  simp only [E_slices_Equal_string, List.getD_cons_zero, List.getD_cons_succ, DC.bb_b, DC.ii_i, DC.ss_s, DC.ll_sl, List.length_map]
  refine eqf_all (enc := S1) false (fun i h h2 => ?_) ?_
  · simp only [if_true, Bool.false_eq_true, if_false, E_slices_Equal_stringL1, List.getD_cons_zero, List.getD_cons_succ, DC.bb_b, DC.ii_i, DC.ss_s, DC.ll_sl, Int.toNat_natCast, List.length_map, map_getD h, map_getD h2, S1, beq_eqv, Bool.and_true]
    cases eqv l[i] m[i] <;> simp [h, h2, wrap_succ h (show l.length ≤ 9223372036854775807 by omega)]
  · simp [E_slices_Equal_stringL1]
theorem slices_Equal_impl_Root_ok (l m : List TRoot) (hl : l.length ≤ 1048576) : r_slices_Equal_impl_Root [.sl (l.map TRoot.enc), .sl (m.map TRoot.enc)] = .ret [.b (eqv l m)] := by
  rw [eq_slices_Equal_impl_Root]
  simp only [E_slices_Equal_impl_Root, List.getD_cons_zero, List.getD_cons_succ, DC.bb_b, DC.ii_i, DC.ss_s, DC.ll_sl, List.length_map]
  refine eqf_all (enc := TRoot.enc) false (fun i h h2 => ?_) ?_
  · simp only [if_true, Bool.false_eq_true, if_false, E_slices_Equal_impl_RootL1, List.getD_cons_zero, List.getD_cons_succ, DC.bb_b, DC.ii_i, DC.ss_s, DC.ll_sl, Int.toNat_natCast, List.length_map, map_getD h, map_getD h2, TRoot.enc_eq, beq_eqv, Bool.and_true, ← eqv_Root]
    cases eqv l[i] m[i] <;> simp [h, h2, wrap_succ h (show l.length ≤ 9223372036854775807 by omega)]
  · simp [E_slices_Equal_impl_RootL1]
theorem slices_EqualFunc_impl_Value__impl_SameValue_ok (l m : List TValue) (hl : l.length ≤ 1048576) (hs : ∀ x ∈ l, ∀ y, r_impl_SameValue [.i x.kind, .s x.text, .sl (x.items.map TValue.enc), .sl (x.names.map S1), .i y.kind, .s y.text, .sl (y.items.map TValue.enc), .sl (y.names.map S1)] = .ret [.b (eqv x y)]) : r_slices_EqualFunc_impl_Value__impl_SameValue [.sl (l.map TValue.enc), .sl (m.map TValue.enc)] = .ret [.b (eqv l m)] := by
  rw [eq_slices_EqualFunc_impl_Value__impl_SameValue]
  simp only [E_slices_EqualFunc_impl_Value__impl_SameValue, List.getD_cons_zero, List.getD_cons_succ, DC.bb_b, DC.ii_i, DC.ss_s, DC.ll_sl, List.length_map]
  refine eqf_all (enc := TValue.enc) true (fun i h h2 => ?_) ?_
  · have key := hs l[i] (List.getElem_mem h) m[i]
    simp only [if_true, Bool.false_eq_true, if_false, E_slices_EqualFunc_impl_Value__impl_SameValueL1, List.getD_cons_zero, List.getD_cons_succ, DC.bb_b, DC.ii_i, DC.ss_s, DC.ll_sl, Int.toNat_natCast, List.length_map, map_getD h, map_getD h2, TValue.enc_eq] at key ⊢
    simp only [key, Out.bindR_ret, List.getD_cons_zero, List.getD_cons_succ, DC.bb_b, DC.ii_i, DC.ss_s, DC.ll_sl]
    cases eqv l[i] m[i] <;> simp [h, h2, wrap_succ h (show l.length ≤ 9223372036854775807 by omega)]
  · simp [E_slices_EqualFunc_impl_Value__impl_SameValueL1]
theorem items_wt {v : TValue} (h : wtL v.enc ≤ 1048576) : v.items.length ≤ 1048576 ∧ v.names.length ≤ 1048576 ∧ ∀ x ∈ v.items, wtL x.enc ≤ 1048576 := by
  simp only [TValue.enc_eq, wtL, DC.wt, List.length_map] at h
  refine ⟨by omega, by omega, fun x hx => ?_⟩
  have := wtV_mem (List.mem_map_of_mem (f := TValue.enc) hx)
  omega

theorem impl_SameValue_ok (a : TValue) : wtL a.enc ≤ 1048576 → ∀ b : TValue, r_impl_SameValue [.i a.kind, .s a.text, .sl (a.items.map TValue.enc), .sl (a.names.map S1), .i b.kind, .s b.text, .sl (b.items.map TValue.enc), .sl (b.names.map S1)] = .ret [.b (eqv a b)] := by
  induction a using TValue.ind with | h a ih =>
  intro ha b
  obtain ⟨h1, h2, h3⟩ := items_wt ha
  rw [eq_impl_SameValue]
  simp only [E_impl_SameValue, List.getD_cons_zero, List.getD_cons_succ, DC.bb_b, DC.ii_i, DC.ss_s, DC.ll_sl, slices_Equal_string_ok a.names b.names h2, slices_EqualFunc_impl_Value__impl_SameValue_ok a.items b.items h1 (fun x hx => ih x hx (h3 x hx)), Out.bindR_ret, beq_eqv, eqv_Value a b]
  cases eqv a.kind b.kind <;> cases eqv a.text b.text <;> cases eqv a.names b.names <;> simp

theorem spec_SameValue_ok (a : TValue) : wtL a.enc ≤ 1048576 → ∀ b : TValue, r_spec_SameValue [.i a.kind, .s a.text, .sl (a.items.map TValue.enc), .sl (a.names.map S1), .i b.kind, .s b.text, .sl (b.items.map TValue.enc), .sl (b.names.map S1)] = .ret [.b (eqv a b)] := by
  induction a using TValue.ind with | h a ih =>
  intro ha b
  obtain ⟨h1, h2, h3⟩ := items_wt ha
  rw [eq_spec_SameValue]
  simp only [E_spec_SameValue, List.getD_cons_zero, List.getD_cons_succ, DC.bb_b, DC.ii_i, DC.ss_s, DC.ll_sl, List.length_map, beq_eqv, bne_eqv]
  cases q1 : eqv a.kind b.kind with
  | false => simp [eqv_Value, q1]
  | true =>
  cases q2 : eqv a.text b.text with
  | false => simp [eqv_Value, q1, q2]
  | true =>
  cases q3 : eqv (a.items.length : Int) (b.items.length : Int) with
  | false =>
    have : eqv a.items b.items = false := by
      rw [eqv_false] at q3 ⊢
      intro h; rw [h] at q3; exact q3 rfl
    simp [eqv_Value, q1, q2, this]
  | true =>
  cases q4 : eqv (a.names.length : Int) (b.names.length : Int) with
  | false =>
    have : eqv a.names b.names = false := by
      rw [eqv_false] at q4 ⊢
      intro h; rw [h] at q4; exact q4 rfl
    simp [eqv_Value, q1, q2, this]
  | true =>
  have l3 : a.items.length = b.items.length := by have := eqv_iff.1 q3; omega
  have l4 : a.names.length = b.names.length := by have := eqv_iff.1 q4; omega
  simp only [Bool.not_true, Bool.false_eq_true, if_false, Out.andThen_norm, List.getD_cons_zero, List.getD_cons_succ, DC.bb_b, DC.ii_i, DC.ss_s, DC.ll_sl]
  rw [cmp_at (l := a.names) (m := b.names) (fin := .ex 0 [.i a.kind, .s a.text, .sl (a.items.map TValue.enc), .sl (a.names.map S1), .i b.kind, .s b.text, .sl (b.items.map TValue.enc), .sl (b.names.map S1)]) 0 rfl l4 (fun i h h2 => ?step) ?fin (Out.esc_ex _ _)]
  · cases q5 : eqv a.names b.names with
    | false => simp [eqv_Value, q5]
    | true =>
      simp only [if_true, Out.andThenB_ex, List.getD_cons_zero, List.getD_cons_succ, DC.bb_b, DC.ii_i, DC.ss_s, DC.ll_sl]
      rw [cmp_at (l := a.items) (m := b.items) (fin := .ex 2 []) 0 rfl l3 (fun i h h2 => ?step2) ?fin2 (Out.esc_ex _ _)]
      · cases q6 : eqv a.items b.items <;> simp [eqv_Value, q1, q2, q5, q6]
      case step2 =>
        have key := ih a.items[i] (List.getElem_mem h) (h3 _ (List.getElem_mem h)) b.items[i]
        simp only [E_spec_SameValueL2, List.set_cons_zero, List.set_cons_succ, List.getD_cons_zero, List.getD_cons_succ, DC.bb_b, DC.ii_i, DC.ss_s, DC.ll_sl, Int.toNat_natCast, List.length_map, map_getD h, map_getD h2, TValue.enc_eq, key, Out.bindR_ret]
        cases eqv a.items[i] b.items[i] <;> simp [h, h2, wrap_succ h (show a.items.length ≤ 9223372036854775807 by omega)]
      case fin2 => simp [E_spec_SameValueL2]
  case step =>
    simp only [E_spec_SameValueL1, List.set_cons_zero, List.set_cons_succ, List.getD_cons_zero, List.getD_cons_succ, DC.bb_b, DC.ii_i, DC.ss_s, DC.ll_sl, Int.toNat_natCast, List.length_map, map_getD h, map_getD h2, S1, beq_eqv]
    cases eqv a.names[i] b.names[i] <;> simp [h, h2, wrap_succ h (show a.names.length ≤ 9223372036854775807 by omega)]
  case fin => simp [E_spec_SameValueL1]

end Go.Proofs.YtljggmbgbnmapaaGreatV
