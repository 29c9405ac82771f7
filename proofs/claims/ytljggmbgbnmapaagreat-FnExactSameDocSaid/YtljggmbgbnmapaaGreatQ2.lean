/- Sameness of arguments, directives, definitions and schemas: what both implementations answer. -/
import Derived.Test.YtljggmbgbnmapaaGreatQ1
namespace Go.Proofs.YtljggmbgbnmapaaGreatV
open Go
set_option linter.unusedVariables false
set_option linter.unusedSimpArgs false
set_option maxRecDepth 100000
theorem len_false {α : Type} {l m : List α} (q : eqv (l.length : Int) (m.length : Int) = false) : eqv l m = false := by
  rw [eqv_false] at q ⊢
  intro h; rw [h] at q; exact q rfl
theorem len_true {α : Type} {l m : List α} (q : eqv (l.length : Int) (m.length : Int) = true) : l.length = m.length := by
  have := eqv_iff.1 q
  omega

theorem wt_Arg {v : TArg} (h : wtL v.enc ≤ 1048576) : wtL (TValue.enc v.value) ≤ 1048576 := by
  simp only [TArg.enc_eq, TValue.enc_eq, wtL, DC.wt, List.length_map] at h ⊢
  omega
theorem wt_Dir {v : TDir} (h : wtL v.enc ≤ 1048576) : v.args.length ≤ 1048576 ∧ (∀ x ∈ v.args, wtL x.enc ≤ 1048576) := by
  simp only [TDir.enc_eq, wtL, DC.wt, List.length_map] at h ⊢
  exact ⟨by omega, fun x hx => by have := wtV_mem (List.mem_map_of_mem (f := TArg.enc) hx); simp only [TArg.enc_eq, wtL, DC.wt, List.length_map] at this ⊢; omega⟩
theorem wt_InDef {v : TInDef} (h : wtL v.enc ≤ 1048576) : v.dirs.length ≤ 1048576 ∧ (∀ x ∈ v.dirs, wtL x.enc ≤ 1048576) ∧ wtL (TType.enc v.type') ≤ 1048576 ∧ wtL (TValue.enc v.default') ≤ 1048576 := by
  simp only [TInDef.enc_eq, TType.enc_eq, TValue.enc_eq, wtL, DC.wt, List.length_map] at h ⊢
  exact ⟨by omega, fun x hx => by have := wtV_mem (List.mem_map_of_mem (f := TDir.enc) hx); simp only [TDir.enc_eq, wtL, DC.wt, List.length_map] at this ⊢; omega, by omega, by omega⟩
theorem wt_FieldDef {v : TFieldDef} (h : wtL v.enc ≤ 1048576) : v.args.length ≤ 1048576 ∧ (∀ x ∈ v.args, wtL x.enc ≤ 1048576) ∧ v.dirs.length ≤ 1048576 ∧ (∀ x ∈ v.dirs, wtL x.enc ≤ 1048576) ∧ wtL (TType.enc v.type') ≤ 1048576 := by
  simp only [TFieldDef.enc_eq, TType.enc_eq, wtL, DC.wt, List.length_map] at h ⊢
  exact ⟨by omega, fun x hx => by have := wtV_mem (List.mem_map_of_mem (f := TInDef.enc) hx); simp only [TInDef.enc_eq, wtL, DC.wt, List.length_map] at this ⊢; omega, by omega, fun x hx => by have := wtV_mem (List.mem_map_of_mem (f := TDir.enc) hx); simp only [TDir.enc_eq, wtL, DC.wt, List.length_map] at this ⊢; omega, by omega⟩
theorem wt_EnumDef {v : TEnumDef} (h : wtL v.enc ≤ 1048576) : v.dirs.length ≤ 1048576 ∧ (∀ x ∈ v.dirs, wtL x.enc ≤ 1048576) := by
  simp only [TEnumDef.enc_eq, wtL, DC.wt, List.length_map] at h ⊢
  exact ⟨by omega, fun x hx => by have := wtV_mem (List.mem_map_of_mem (f := TDir.enc) hx); simp only [TDir.enc_eq, wtL, DC.wt, List.length_map] at this ⊢; omega⟩
theorem wt_Def {v : TDef} (h : wtL v.enc ≤ 1048576) : v.faces.length ≤ 1048576 ∧ v.fields.length ≤ 1048576 ∧ (∀ x ∈ v.fields, wtL x.enc ≤ 1048576) ∧ v.inputs.length ≤ 1048576 ∧ (∀ x ∈ v.inputs, wtL x.enc ≤ 1048576) ∧ v.values.length ≤ 1048576 ∧ (∀ x ∈ v.values, wtL x.enc ≤ 1048576) ∧ v.roots.length ≤ 1048576 ∧ (∀ x ∈ v.roots, wtL x.enc ≤ 1048576) ∧ v.dirs.length ≤ 1048576 ∧ (∀ x ∈ v.dirs, wtL x.enc ≤ 1048576) := by
  simp only [TDef.enc_eq, wtL, DC.wt, List.length_map] at h ⊢
  exact ⟨by omega, by omega, fun x hx => by have := wtV_mem (List.mem_map_of_mem (f := TFieldDef.enc) hx); simp only [TFieldDef.enc_eq, wtL, DC.wt, List.length_map] at this ⊢; omega, by omega, fun x hx => by have := wtV_mem (List.mem_map_of_mem (f := TInDef.enc) hx); simp only [TInDef.enc_eq, wtL, DC.wt, List.length_map] at this ⊢; omega, by omega, fun x hx => by have := wtV_mem (List.mem_map_of_mem (f := TEnumDef.enc) hx); simp only [TEnumDef.enc_eq, wtL, DC.wt, List.length_map] at this ⊢; omega, by omega, fun x hx => by have := wtV_mem (List.mem_map_of_mem (f := TRoot.enc) hx); simp only [TRoot.enc_eq, wtL, DC.wt, List.length_map] at this ⊢; omega, by omega, fun x hx => by have := wtV_mem (List.mem_map_of_mem (f := TDir.enc) hx); simp only [TDir.enc_eq, wtL, DC.wt, List.length_map] at this ⊢; omega⟩
theorem wt_Schema {v : TSchema} (h : wtL v.enc ≤ 1048576) : v.types.length ≤ 1048576 ∧ (∀ x ∈ v.types, wtL x.enc ≤ 1048576) ∧ v.dirs.length ≤ 1048576 ∧ (∀ x ∈ v.dirs, wtL x.enc ≤ 1048576) ∧ v.roots.length ≤ 1048576 ∧ (∀ x ∈ v.roots, wtL x.enc ≤ 1048576) := by
  simp only [TSchema.enc_eq, wtL, DC.wt, List.length_map] at h ⊢
  exact ⟨by omega, fun x hx => by have := wtV_mem (List.mem_map_of_mem (f := TDef.enc) hx); simp only [TDef.enc_eq, wtL, DC.wt, List.length_map] at this ⊢; omega, by omega, fun x hx => by have := wtV_mem (List.mem_map_of_mem (f := TDef.enc) hx); simp only [TDef.enc_eq, wtL, DC.wt, List.length_map] at this ⊢; omega, by omega, fun x hx => by have := wtV_mem (List.mem_map_of_mem (f := TRoot.enc) hx); simp only [TRoot.enc_eq, wtL, DC.wt, List.length_map] at this ⊢; omega⟩
theorem impl_SameArgs_1_ok (a : TArg) (ha : wtL a.enc ≤ 1048576) (b : TArg) : r_impl_SameArgs_1 [.s a.name, .i a.value.kind, .s a.value.text, .sl (a.value.items.map TValue.enc), .sl (a.value.names.map S1), .s b.name, .i b.value.kind, .s b.value.text, .sl (b.value.items.map TValue.enc), .sl (b.value.names.map S1)] = .ret [.b (eqv a b)] := by
  have w := wt_Arg ha
  rw [eq_impl_SameArgs_1]
  simp only [E_impl_SameArgs_1, List.getD_cons_zero, List.getD_cons_succ, DC.bb_b, DC.ii_i, DC.ss_s, DC.ll_sl, impl_SameValue_ok a.value w b.value, Out.bindR_ret, beq_eqv, bne_eqv, Bool.and_true, ← eqv_Type]
  rw [eqv_Arg a b]
  cases q0 : eqv a.name b.name with
  | false => simp [q0]
  | true =>
  cases q1 : eqv a.value b.value with
  | false => simp [q0, q1]
  | true =>
  simp [q0, q1]
theorem slices_EqualFunc_impl_Arg__impl_SameArgs_1_ok (l m : List TArg) (hl : l.length ≤ 1048576) (hs : ∀ x ∈ l, ∀ y, r_impl_SameArgs_1 [.s x.name, .i x.value.kind, .s x.value.text, .sl (x.value.items.map TValue.enc), .sl (x.value.names.map S1), .s y.name, .i y.value.kind, .s y.value.text, .sl (y.value.items.map TValue.enc), .sl (y.value.names.map S1)] = .ret [.b (eqv x y)]) : r_slices_EqualFunc_impl_Arg__impl_SameArgs_1 [.sl (l.map TArg.enc), .sl (m.map TArg.enc)] = .ret [.b (eqv l m)] := by
  rw [eq_slices_EqualFunc_impl_Arg__impl_SameArgs_1]
  simp only [E_slices_EqualFunc_impl_Arg__impl_SameArgs_1, List.getD_cons_zero, List.getD_cons_succ, DC.bb_b, DC.ii_i, DC.ss_s, DC.ll_sl, List.length_map]
  refine eqf_all (enc := TArg.enc) true (fun i h h2 => ?_) ?_
  · have key := hs l[i] (List.getElem_mem h) m[i]
    simp only [if_true, Bool.false_eq_true, if_false, E_slices_EqualFunc_impl_Arg__impl_SameArgs_1L1, List.getD_cons_zero, List.getD_cons_succ, DC.bb_b, DC.ii_i, DC.ss_s, DC.ll_sl, Int.toNat_natCast, List.length_map, map_getD h, map_getD h2, TArg.enc_eq] at key ⊢
    simp only [key, Out.bindR_ret, List.getD_cons_zero, List.getD_cons_succ, DC.bb_b, DC.ii_i, DC.ss_s, DC.ll_sl]
    cases eqv l[i] m[i] <;> simp [h, h2, wrap_succ h (show l.length ≤ 9223372036854775807 by omega)]
  · simp [E_slices_EqualFunc_impl_Arg__impl_SameArgs_1L1]
theorem impl_SameArgs_ok (l m : List TArg) (hl : l.length ≤ 1048576) (hw : ∀ x ∈ l, wtL x.enc ≤ 1048576) : r_impl_SameArgs [.sl (l.map TArg.enc), .sl (m.map TArg.enc)] = .ret [.b (eqv l m)] := by
  rw [eq_impl_SameArgs]
  simp only [E_impl_SameArgs, List.getD_cons_zero, List.getD_cons_succ, DC.bb_b, DC.ii_i, DC.ss_s, DC.ll_sl, slices_EqualFunc_impl_Arg__impl_SameArgs_1_ok l m hl (fun x hx y => impl_SameArgs_1_ok x (hw x hx) y), Out.bindR_ret]
theorem impl_sameDirs_1_ok (a : TDir) (ha : wtL a.enc ≤ 1048576) (b : TDir) : r_impl_sameDirs_1 [.s a.name, .sl (a.args.map TArg.enc), .s b.name, .sl (b.args.map TArg.enc)] = .ret [.b (eqv a b)] := by
  have w := wt_Dir ha
  rw [eq_impl_sameDirs_1]
  simp only [E_impl_sameDirs_1, List.getD_cons_zero, List.getD_cons_succ, DC.bb_b, DC.ii_i, DC.ss_s, DC.ll_sl, impl_SameArgs_ok a.args b.args w.1 w.2, Out.bindR_ret, beq_eqv, bne_eqv, Bool.and_true, ← eqv_Type]
  rw [eqv_Dir a b]
  cases q0 : eqv a.name b.name with
  | false => simp [q0]
  | true =>
  cases q1 : eqv a.args b.args with
  | false => simp [q0, q1]
  | true =>
  simp [q0, q1]
theorem slices_EqualFunc_impl_Dir__impl_sameDirs_1_ok (l m : List TDir) (hl : l.length ≤ 1048576) (hs : ∀ x ∈ l, ∀ y, r_impl_sameDirs_1 [.s x.name, .sl (x.args.map TArg.enc), .s y.name, .sl (y.args.map TArg.enc)] = .ret [.b (eqv x y)]) : r_slices_EqualFunc_impl_Dir__impl_sameDirs_1 [.sl (l.map TDir.enc), .sl (m.map TDir.enc)] = .ret [.b (eqv l m)] := by
  rw [eq_slices_EqualFunc_impl_Dir__impl_sameDirs_1]
  simp only [E_slices_EqualFunc_impl_Dir__impl_sameDirs_1, List.getD_cons_zero, List.getD_cons_succ, DC.bb_b, DC.ii_i, DC.ss_s, DC.ll_sl, List.length_map]
  refine eqf_all (enc := TDir.enc) true (fun i h h2 => ?_) ?_
  · have key := hs l[i] (List.getElem_mem h) m[i]
    simp only [if_true, Bool.false_eq_true, if_false, E_slices_EqualFunc_impl_Dir__impl_sameDirs_1L1, List.getD_cons_zero, List.getD_cons_succ, DC.bb_b, DC.ii_i, DC.ss_s, DC.ll_sl, Int.toNat_natCast, List.length_map, map_getD h, map_getD h2, TDir.enc_eq] at key ⊢
    simp only [key, Out.bindR_ret, List.getD_cons_zero, List.getD_cons_succ, DC.bb_b, DC.ii_i, DC.ss_s, DC.ll_sl]
    cases eqv l[i] m[i] <;> simp [h, h2, wrap_succ h (show l.length ≤ 9223372036854775807 by omega)]
  · simp [E_slices_EqualFunc_impl_Dir__impl_sameDirs_1L1]
theorem impl_sameDirs_ok (l m : List TDir) (hl : l.length ≤ 1048576) (hw : ∀ x ∈ l, wtL x.enc ≤ 1048576) : r_impl_sameDirs [.sl (l.map TDir.enc), .sl (m.map TDir.enc)] = .ret [.b (eqv l m)] := by
  rw [eq_impl_sameDirs]
  simp only [E_impl_sameDirs, List.getD_cons_zero, List.getD_cons_succ, DC.bb_b, DC.ii_i, DC.ss_s, DC.ll_sl, slices_EqualFunc_impl_Dir__impl_sameDirs_1_ok l m hl (fun x hx y => impl_sameDirs_1_ok x (hw x hx) y), Out.bindR_ret]
theorem impl_sameIn_ok (a : TInDef) (ha : wtL a.enc ≤ 1048576) (b : TInDef) : r_impl_sameIn [.s a.name, .s a.desc, .s a.type'.name, .s a.type'.wraps, .b a.has', .i a.default'.kind, .s a.default'.text, .sl (a.default'.items.map TValue.enc), .sl (a.default'.names.map S1), .sl (a.dirs.map TDir.enc), .s b.name, .s b.desc, .s b.type'.name, .s b.type'.wraps, .b b.has', .i b.default'.kind, .s b.default'.text, .sl (b.default'.items.map TValue.enc), .sl (b.default'.names.map S1), .sl (b.dirs.map TDir.enc)] = .ret [.b (eqv a b)] := by
  have w := wt_InDef ha
  rw [eq_impl_sameIn]
  simp only [E_impl_sameIn, List.getD_cons_zero, List.getD_cons_succ, DC.bb_b, DC.ii_i, DC.ss_s, DC.ll_sl, impl_SameValue_ok a.default' w.2.2.2 b.default', impl_sameDirs_ok a.dirs b.dirs w.1 w.2.1, Out.bindR_ret, beq_eqv, bne_eqv, Bool.and_true, ← eqv_Type]
  rw [eqv_InDef a b]
  cases q0 : eqv a.name b.name with
  | false => simp [q0]
  | true =>
  cases q1 : eqv a.desc b.desc with
  | false => simp [q0, q1]
  | true =>
  cases q2 : eqv a.type' b.type' with
  | false => simp [q0, q1, q2]
  | true =>
  cases q3 : eqv a.has' b.has' with
  | false => simp [q0, q1, q2, q3]
  | true =>
  cases q4 : eqv a.default' b.default' with
  | false => simp [q0, q1, q2, q3, q4]
  | true =>
  cases q5 : eqv a.dirs b.dirs with
  | false => simp [q0, q1, q2, q3, q4, q5]
  | true =>
  simp [q0, q1, q2, q3, q4, q5]
theorem slices_EqualFunc_impl_InDef__impl_sameIn_ok (l m : List TInDef) (hl : l.length ≤ 1048576) (hs : ∀ x ∈ l, ∀ y, r_impl_sameIn [.s x.name, .s x.desc, .s x.type'.name, .s x.type'.wraps, .b x.has', .i x.default'.kind, .s x.default'.text, .sl (x.default'.items.map TValue.enc), .sl (x.default'.names.map S1), .sl (x.dirs.map TDir.enc), .s y.name, .s y.desc, .s y.type'.name, .s y.type'.wraps, .b y.has', .i y.default'.kind, .s y.default'.text, .sl (y.default'.items.map TValue.enc), .sl (y.default'.names.map S1), .sl (y.dirs.map TDir.enc)] = .ret [.b (eqv x y)]) : r_slices_EqualFunc_impl_InDef__impl_sameIn [.sl (l.map TInDef.enc), .sl (m.map TInDef.enc)] = .ret [.b (eqv l m)] := by
  rw [eq_slices_EqualFunc_impl_InDef__impl_sameIn]
  simp only [E_slices_EqualFunc_impl_InDef__impl_sameIn, List.getD_cons_zero, List.getD_cons_succ, DC.bb_b, DC.ii_i, DC.ss_s, DC.ll_sl, List.length_map]
  refine eqf_all (enc := TInDef.enc) true (fun i h h2 => ?_) ?_
  · have key := hs l[i] (List.getElem_mem h) m[i]
    simp only [if_true, Bool.false_eq_true, if_false, E_slices_EqualFunc_impl_InDef__impl_sameInL1, List.getD_cons_zero, List.getD_cons_succ, DC.bb_b, DC.ii_i, DC.ss_s, DC.ll_sl, Int.toNat_natCast, List.length_map, map_getD h, map_getD h2, TInDef.enc_eq] at key ⊢
    simp only [key, Out.bindR_ret, List.getD_cons_zero, List.getD_cons_succ, DC.bb_b, DC.ii_i, DC.ss_s, DC.ll_sl]
    cases eqv l[i] m[i] <;> simp [h, h2, wrap_succ h (show l.length ≤ 9223372036854775807 by omega)]
  · simp [E_slices_EqualFunc_impl_InDef__impl_sameInL1]
theorem impl_sameField_ok (a : TFieldDef) (ha : wtL a.enc ≤ 1048576) (b : TFieldDef) : r_impl_sameField [.s a.name, .s a.desc, .sl (a.args.map TInDef.enc), .s a.type'.name, .s a.type'.wraps, .sl (a.dirs.map TDir.enc), .s b.name, .s b.desc, .sl (b.args.map TInDef.enc), .s b.type'.name, .s b.type'.wraps, .sl (b.dirs.map TDir.enc)] = .ret [.b (eqv a b)] := by
  have w := wt_FieldDef ha
  rw [eq_impl_sameField]
  simp only [E_impl_sameField, List.getD_cons_zero, List.getD_cons_succ, DC.bb_b, DC.ii_i, DC.ss_s, DC.ll_sl, slices_EqualFunc_impl_InDef__impl_sameIn_ok a.args b.args w.1 (fun x hx y => impl_sameIn_ok x (w.2.1 x hx) y), impl_sameDirs_ok a.dirs b.dirs w.2.2.1 w.2.2.2.1, Out.bindR_ret, beq_eqv, bne_eqv, Bool.and_true, ← eqv_Type]
  rw [eqv_FieldDef a b]
  cases q0 : eqv a.name b.name with
  | false => simp [q0]
  | true =>
  cases q1 : eqv a.desc b.desc with
  | false => simp [q0, q1]
  | true =>
  cases q2 : eqv a.args b.args with
  | false => simp [q0, q1, q2]
  | true =>
  cases q3 : eqv a.type' b.type' with
  | false => simp [q0, q1, q2, q3]
  | true =>
  cases q4 : eqv a.dirs b.dirs with
  | false => simp [q0, q1, q2, q3, q4]
  | true =>
  simp [q0, q1, q2, q3, q4]
theorem slices_EqualFunc_impl_FieldDef__impl_sameField_ok (l m : List TFieldDef) (hl : l.length ≤ 1048576) (hs : ∀ x ∈ l, ∀ y, r_impl_sameField [.s x.name, .s x.desc, .sl (x.args.map TInDef.enc), .s x.type'.name, .s x.type'.wraps, .sl (x.dirs.map TDir.enc), .s y.name, .s y.desc, .sl (y.args.map TInDef.enc), .s y.type'.name, .s y.type'.wraps, .sl (y.dirs.map TDir.enc)] = .ret [.b (eqv x y)]) : r_slices_EqualFunc_impl_FieldDef__impl_sameField [.sl (l.map TFieldDef.enc), .sl (m.map TFieldDef.enc)] = .ret [.b (eqv l m)] := by
  rw [eq_slices_EqualFunc_impl_FieldDef__impl_sameField]
  simp only [E_slices_EqualFunc_impl_FieldDef__impl_sameField, List.getD_cons_zero, List.getD_cons_succ, DC.bb_b, DC.ii_i, DC.ss_s, DC.ll_sl, List.length_map]
  refine eqf_all (enc := TFieldDef.enc) true (fun i h h2 => ?_) ?_
  · have key := hs l[i] (List.getElem_mem h) m[i]
    simp only [if_true, Bool.false_eq_true, if_false, E_slices_EqualFunc_impl_FieldDef__impl_sameFieldL1, List.getD_cons_zero, List.getD_cons_succ, DC.bb_b, DC.ii_i, DC.ss_s, DC.ll_sl, Int.toNat_natCast, List.length_map, map_getD h, map_getD h2, TFieldDef.enc_eq] at key ⊢
    simp only [key, Out.bindR_ret, List.getD_cons_zero, List.getD_cons_succ, DC.bb_b, DC.ii_i, DC.ss_s, DC.ll_sl]
    cases eqv l[i] m[i] <;> simp [h, h2, wrap_succ h (show l.length ≤ 9223372036854775807 by omega)]
  · simp [E_slices_EqualFunc_impl_FieldDef__impl_sameFieldL1]
theorem impl_sameEnum_ok (a : TEnumDef) (ha : wtL a.enc ≤ 1048576) (b : TEnumDef) : r_impl_sameEnum [.s a.name, .s a.desc, .sl (a.dirs.map TDir.enc), .s b.name, .s b.desc, .sl (b.dirs.map TDir.enc)] = .ret [.b (eqv a b)] := by
  have w := wt_EnumDef ha
  rw [eq_impl_sameEnum]
  simp only [E_impl_sameEnum, List.getD_cons_zero, List.getD_cons_succ, DC.bb_b, DC.ii_i, DC.ss_s, DC.ll_sl, impl_sameDirs_ok a.dirs b.dirs w.1 w.2, Out.bindR_ret, beq_eqv, bne_eqv, Bool.and_true, ← eqv_Type]
  rw [eqv_EnumDef a b]
  cases q0 : eqv a.name b.name with
  | false => simp [q0]
  | true =>
  cases q1 : eqv a.desc b.desc with
  | false => simp [q0, q1]
  | true =>
  cases q2 : eqv a.dirs b.dirs with
  | false => simp [q0, q1, q2]
  | true =>
  simp [q0, q1, q2]
theorem slices_EqualFunc_impl_EnumDef__impl_sameEnum_ok (l m : List TEnumDef) (hl : l.length ≤ 1048576) (hs : ∀ x ∈ l, ∀ y, r_impl_sameEnum [.s x.name, .s x.desc, .sl (x.dirs.map TDir.enc), .s y.name, .s y.desc, .sl (y.dirs.map TDir.enc)] = .ret [.b (eqv x y)]) : r_slices_EqualFunc_impl_EnumDef__impl_sameEnum [.sl (l.map TEnumDef.enc), .sl (m.map TEnumDef.enc)] = .ret [.b (eqv l m)] := by
  rw [eq_slices_EqualFunc_impl_EnumDef__impl_sameEnum]
  simp only [E_slices_EqualFunc_impl_EnumDef__impl_sameEnum, List.getD_cons_zero, List.getD_cons_succ, DC.bb_b, DC.ii_i, DC.ss_s, DC.ll_sl, List.length_map]
  refine eqf_all (enc := TEnumDef.enc) true (fun i h h2 => ?_) ?_
  · have key := hs l[i] (List.getElem_mem h) m[i]
    simp only [if_true, Bool.false_eq_true, if_false, E_slices_EqualFunc_impl_EnumDef__impl_sameEnumL1, List.getD_cons_zero, List.getD_cons_succ, DC.bb_b, DC.ii_i, DC.ss_s, DC.ll_sl, Int.toNat_natCast, List.length_map, map_getD h, map_getD h2, TEnumDef.enc_eq] at key ⊢
    simp only [key, Out.bindR_ret, List.getD_cons_zero, List.getD_cons_succ, DC.bb_b, DC.ii_i, DC.ss_s, DC.ll_sl]
    cases eqv l[i] m[i] <;> simp [h, h2, wrap_succ h (show l.length ≤ 9223372036854775807 by omega)]
  · simp [E_slices_EqualFunc_impl_EnumDef__impl_sameEnumL1]
theorem impl_sameDef_ok (a : TDef) (ha : wtL a.enc ≤ 1048576) (b : TDef) : r_impl_sameDef [.i a.kind, .b a.ext, .s a.desc, .s a.name, .sl (a.faces.map S1), .sl (a.fields.map TFieldDef.enc), .sl (a.inputs.map TInDef.enc), .sl (a.values.map TEnumDef.enc), .sl (a.roots.map TRoot.enc), .b a.repeat', .sl (a.dirs.map TDir.enc), .i b.kind, .b b.ext, .s b.desc, .s b.name, .sl (b.faces.map S1), .sl (b.fields.map TFieldDef.enc), .sl (b.inputs.map TInDef.enc), .sl (b.values.map TEnumDef.enc), .sl (b.roots.map TRoot.enc), .b b.repeat', .sl (b.dirs.map TDir.enc)] = .ret [.b (eqv a b)] := by
  have w := wt_Def ha
  rw [eq_impl_sameDef]
  simp only [E_impl_sameDef, List.getD_cons_zero, List.getD_cons_succ, DC.bb_b, DC.ii_i, DC.ss_s, DC.ll_sl, slices_Equal_string_ok a.faces b.faces w.1, slices_EqualFunc_impl_FieldDef__impl_sameField_ok a.fields b.fields w.2.1 (fun x hx y => impl_sameField_ok x (w.2.2.1 x hx) y), slices_EqualFunc_impl_InDef__impl_sameIn_ok a.inputs b.inputs w.2.2.2.1 (fun x hx y => impl_sameIn_ok x (w.2.2.2.2.1 x hx) y), slices_EqualFunc_impl_EnumDef__impl_sameEnum_ok a.values b.values w.2.2.2.2.2.1 (fun x hx y => impl_sameEnum_ok x (w.2.2.2.2.2.2.1 x hx) y), slices_Equal_impl_Root_ok a.roots b.roots w.2.2.2.2.2.2.2.1, impl_sameDirs_ok a.dirs b.dirs w.2.2.2.2.2.2.2.2.2.1 w.2.2.2.2.2.2.2.2.2.2, Out.bindR_ret, beq_eqv, bne_eqv, Bool.and_true, ← eqv_Type]
  rw [eqv_Def a b]
  cases q0 : eqv a.kind b.kind with
  | false => simp [q0]
  | true =>
  cases q1 : eqv a.ext b.ext with
  | false => simp [q0, q1]
  | true =>
  cases q2 : eqv a.desc b.desc with
  | false => simp [q0, q1, q2]
  | true =>
  cases q3 : eqv a.name b.name with
  | false => simp [q0, q1, q2, q3]
  | true =>
  cases q4 : eqv a.repeat' b.repeat' with
  | false => simp [q0, q1, q2, q3, q4]
  | true =>
  cases q5 : eqv a.faces b.faces with
  | false => simp [q0, q1, q2, q3, q4, q5]
  | true =>
  cases q6 : eqv a.fields b.fields with
  | false => simp [q0, q1, q2, q3, q4, q5, q6]
  | true =>
  cases q7 : eqv a.inputs b.inputs with
  | false => simp [q0, q1, q2, q3, q4, q5, q6, q7]
  | true =>
  cases q8 : eqv a.values b.values with
  | false => simp [q0, q1, q2, q3, q4, q5, q6, q7, q8]
  | true =>
  cases q9 : eqv a.roots b.roots with
  | false => simp [q0, q1, q2, q3, q4, q5, q6, q7, q8, q9]
  | true =>
  cases q10 : eqv a.dirs b.dirs with
  | false => simp [q0, q1, q2, q3, q4, q5, q6, q7, q8, q9, q10]
  | true =>
  simp [q0, q1, q2, q3, q4, q5, q6, q7, q8, q9, q10]
theorem spec_SameArgs_ok (l m : List TArg) (hl : l.length ≤ 1048576) (hw : ∀ x ∈ l, wtL x.enc ≤ 1048576) : r_spec_SameArgs [.sl (l.map TArg.enc), .sl (m.map TArg.enc)] = .ret [.b (eqv l m)] := by
  rw [eq_spec_SameArgs]
  simp only [E_spec_SameArgs, List.getD_cons_zero, List.getD_cons_succ, DC.bb_b, DC.ii_i, DC.ss_s, DC.ll_sl]
  refine cmp2_at (l := l) (m := m) (fin := [.sl (l.map TArg.enc), .sl (m.map TArg.enc)]) 2 rfl (fun i h h2 => ?_) (fun i h => ?_) _ (by simp [beq_eqv])
  · have w := wt_Arg (hw l[i] (List.getElem_mem h))
    have key := spec_SameValue_ok l[i].value w m[i].value
    have c1 : (i : Int) < (l.length : Int) := by omega
    have c2 : (i : Int) < (m.length : Int) := by omega
    simp only [E_spec_SameArgsL1, List.getD_cons_zero, List.getD_cons_succ, DC.bb_b, DC.ii_i, DC.ss_s, DC.ll_sl, List.set_cons_zero, List.set_cons_succ, List.length_map, c1, c2, decide_true, if_true, Out.andThen_norm, Int.toNat_natCast, map_getD h, map_getD h2, TArg.enc_eq, key, Out.bindR_ret, beq_eqv, bne_eqv, eqv_Arg]
    cases q0 : eqv l[i].name m[i].name with
    | false => simp [q0, h, h2, c1, c2, wrap_succ h (show l.length ≤ 9223372036854775807 by omega)]
    | true =>
    cases q1 : eqv l[i].value m[i].value with
    | false => simp [q0, q1, h, h2, c1, c2, wrap_succ h (show l.length ≤ 9223372036854775807 by omega)]
    | true =>
    simp [q0, q1, h, h2, c1, c2, wrap_succ h (show l.length ≤ 9223372036854775807 by omega)]
  · rcases h with h | h
    · have c1 : ¬ (i : Int) < (l.length : Int) := by omega
      simp [E_spec_SameArgsL1, c1, show ¬ i < l.length by omega]
    · have c1 : ¬ (i : Int) < (m.length : Int) := by omega
      by_cases c2 : i < l.length
      · have c3 : (i : Int) < (l.length : Int) := by omega
        simp [E_spec_SameArgsL1, c1, c2, c3, show ¬ i < m.length by omega]
      · have c3 : ¬ (i : Int) < (l.length : Int) := by omega
        simp [E_spec_SameArgsL1, c3, c2]
theorem spec_l10SameDirs_ok (l m : List TDir) (hl : l.length ≤ 1048576) (hw : ∀ x ∈ l, wtL x.enc ≤ 1048576) : r_spec_l10SameDirs [.sl (l.map TDir.enc), .sl (m.map TDir.enc)] = .ret [.b (eqv l m)] := by
  rw [eq_spec_l10SameDirs]
  simp only [E_spec_l10SameDirs, List.getD_cons_zero, List.getD_cons_succ, DC.bb_b, DC.ii_i, DC.ss_s, DC.ll_sl]
  refine cmp2_at (l := l) (m := m) (fin := [.sl (l.map TDir.enc), .sl (m.map TDir.enc)]) 2 rfl (fun i h h2 => ?_) (fun i h => ?_) _ (by simp [beq_eqv])
  · have w := wt_Dir (hw l[i] (List.getElem_mem h))
    have key := spec_SameArgs_ok l[i].args m[i].args w.1 w.2
    have c1 : (i : Int) < (l.length : Int) := by omega
    have c2 : (i : Int) < (m.length : Int) := by omega
    simp only [E_spec_l10SameDirsL1, List.getD_cons_zero, List.getD_cons_succ, DC.bb_b, DC.ii_i, DC.ss_s, DC.ll_sl, List.set_cons_zero, List.set_cons_succ, List.length_map, c1, c2, decide_true, if_true, Out.andThen_norm, Int.toNat_natCast, map_getD h, map_getD h2, TDir.enc_eq, key, Out.bindR_ret, beq_eqv, bne_eqv, eqv_Dir]
    cases q0 : eqv l[i].name m[i].name with
    | false => simp [q0, h, h2, c1, c2, wrap_succ h (show l.length ≤ 9223372036854775807 by omega)]
    | true =>
    cases q1 : eqv l[i].args m[i].args with
    | false => simp [q0, q1, h, h2, c1, c2, wrap_succ h (show l.length ≤ 9223372036854775807 by omega)]
    | true =>
    simp [q0, q1, h, h2, c1, c2, wrap_succ h (show l.length ≤ 9223372036854775807 by omega)]
  · rcases h with h | h
    · have c1 : ¬ (i : Int) < (l.length : Int) := by omega
      simp [E_spec_l10SameDirsL1, c1, show ¬ i < l.length by omega]
    · have c1 : ¬ (i : Int) < (m.length : Int) := by omega
      by_cases c2 : i < l.length
      · have c3 : (i : Int) < (l.length : Int) := by omega
        simp [E_spec_l10SameDirsL1, c1, c2, c3, show ¬ i < m.length by omega]
      · have c3 : ¬ (i : Int) < (l.length : Int) := by omega
        simp [E_spec_l10SameDirsL1, c3, c2]
theorem spec_l14SameIn_ok (l m : List TInDef) (hl : l.length ≤ 1048576) (hw : ∀ x ∈ l, wtL x.enc ≤ 1048576) : r_spec_l14SameIn [.sl (l.map TInDef.enc), .sl (m.map TInDef.enc)] = .ret [.b (eqv l m)] := by
  rw [eq_spec_l14SameIn]
  simp only [E_spec_l14SameIn, List.getD_cons_zero, List.getD_cons_succ, DC.bb_b, DC.ii_i, DC.ss_s, DC.ll_sl, List.length_map, bne_eqv]
  cases q : eqv (l.length : Int) (m.length : Int) with
  | false => simp [len_false q]
  | true =>
  simp only [Bool.not_true, Bool.false_eq_true, if_false]
  rw [cmp_at (l := l) (m := m) (fin := .ex 0 []) 2 rfl (len_true q) (fun i h h2 => ?step) ?fin (Out.esc_ex _ _)]
  · cases eqv l m <;> simp
  case fin => simp [E_spec_l14SameInL1]
  case step =>
  have w := hw l[i] (List.getElem_mem h)
  have key0 := spec_SameValue_ok l[i].default' (wt_InDef w).2.2.2 m[i].default'
  have key1 := spec_l10SameDirs_ok l[i].dirs m[i].dirs (wt_InDef w).1 (wt_InDef w).2.1
  have c1 : (i : Int) < (l.length : Int) := by omega
  have c2 : (i : Int) < (m.length : Int) := by omega
  simp only [E_spec_l14SameInL1, List.getD_cons_zero, List.getD_cons_succ, DC.bb_b, DC.ii_i, DC.ss_s, DC.ll_sl, List.set_cons_zero, List.set_cons_succ, List.length_map, c1, c2, decide_true, if_true, Int.toNat_natCast, map_getD h, map_getD h2, TInDef.enc_eq, key0, key1, Out.bindR_ret, beq_eqv, bne_eqv, Bool.and_true, ← eqv_Type, eqv_InDef l[i] m[i]]
  cases q0 : eqv l[i].name m[i].name with
  | false => simp [q0, h, h2, c1, c2, wrap_succ h (show l.length ≤ 9223372036854775807 by omega)]
  | true =>
  cases q1 : eqv l[i].desc m[i].desc with
  | false => simp [q0, q1, h, h2, c1, c2, wrap_succ h (show l.length ≤ 9223372036854775807 by omega)]
  | true =>
  cases q2 : eqv l[i].type' m[i].type' with
  | false => simp [q0, q1, q2, h, h2, c1, c2, wrap_succ h (show l.length ≤ 9223372036854775807 by omega)]
  | true =>
  cases q3 : eqv l[i].has' m[i].has' with
  | false => simp [q0, q1, q2, q3, h, h2, c1, c2, wrap_succ h (show l.length ≤ 9223372036854775807 by omega)]
  | true =>
  cases q4 : eqv l[i].default' m[i].default' with
  | false => simp [q0, q1, q2, q3, q4, h, h2, c1, c2, wrap_succ h (show l.length ≤ 9223372036854775807 by omega)]
  | true =>
  cases q5 : eqv l[i].dirs m[i].dirs with
  | false => simp [q0, q1, q2, q3, q4, q5, h, h2, c1, c2, wrap_succ h (show l.length ≤ 9223372036854775807 by omega)]
  | true =>
  simp [q0, q1, q2, q3, q4, q5, h, h2, c1, c2, wrap_succ h (show l.length ≤ 9223372036854775807 by omega)]
theorem spec_l14SameDef_ok (a : TDef) (ha : wtL a.enc ≤ 1048576) (b : TDef) : r_spec_l14SameDef [.i a.kind, .b a.ext, .s a.desc, .s a.name, .sl (a.faces.map S1), .sl (a.fields.map TFieldDef.enc), .sl (a.inputs.map TInDef.enc), .sl (a.values.map TEnumDef.enc), .sl (a.roots.map TRoot.enc), .b a.repeat', .sl (a.dirs.map TDir.enc), .i b.kind, .b b.ext, .s b.desc, .s b.name, .sl (b.faces.map S1), .sl (b.fields.map TFieldDef.enc), .sl (b.inputs.map TInDef.enc), .sl (b.values.map TEnumDef.enc), .sl (b.roots.map TRoot.enc), .b b.repeat', .sl (b.dirs.map TDir.enc)] = .ret [.b (eqv a b)] := by
  have w := wt_Def ha
  have kin := spec_l14SameIn_ok a.inputs b.inputs w.2.2.2.1 w.2.2.2.2.1
  have kdi := spec_l10SameDirs_ok a.dirs b.dirs w.2.2.2.2.2.2.2.2.2.1 w.2.2.2.2.2.2.2.2.2.2
  rw [eq_spec_l14SameDef]
  simp only [E_spec_l14SameDef, List.getD_cons_zero, List.getD_cons_succ, DC.bb_b, DC.ii_i, DC.ss_s, DC.ll_sl, List.length_map, beq_eqv, bne_eqv, kin, kdi, Out.bindR_ret]
  cases q0 : eqv a.kind b.kind with
  | false => simp [eqv_Def a b, q0]
  | true =>
  cases q1 : eqv a.ext b.ext with
  | false => simp [eqv_Def a b, q0, q1]
  | true =>
  cases q2 : eqv a.desc b.desc with
  | false => simp [eqv_Def a b, q0, q1, q2]
  | true =>
  cases q3 : eqv a.name b.name with
  | false => simp [eqv_Def a b, q0, q1, q2, q3]
  | true =>
  cases q4 : eqv a.repeat' b.repeat' with
  | false => simp [eqv_Def a b, q0, q1, q2, q3, q4]
  | true =>
  cases q5 : eqv (a.faces.length : Int) (b.faces.length : Int) with
  | false => simp [eqv_Def a b, len_false q5, q0, q1, q2, q3, q4, q5]
  | true =>
  cases q6 : eqv (a.fields.length : Int) (b.fields.length : Int) with
  | false => simp [eqv_Def a b, len_false q6, q0, q1, q2, q3, q4, q5, q6]
  | true =>
  cases q7 : eqv (a.values.length : Int) (b.values.length : Int) with
  | false => simp [eqv_Def a b, len_false q7, q0, q1, q2, q3, q4, q5, q6, q7]
  | true =>
  cases q8 : eqv (a.roots.length : Int) (b.roots.length : Int) with
  | false => simp [eqv_Def a b, len_false q8, q0, q1, q2, q3, q4, q5, q6, q7, q8]
  | true =>
  cases q9 : eqv a.inputs b.inputs with
  | false => simp [eqv_Def a b, q0, q1, q2, q3, q4, q5, q6, q7, q8, q9]
  | true =>
  cases q10 : eqv a.dirs b.dirs with
  | false => simp [eqv_Def a b, q0, q1, q2, q3, q4, q5, q6, q7, q8, q9, q10]
  | true =>
  simp only [Bool.not_true, Bool.false_eq_true, if_false, Out.andThen_norm, List.getD_cons_zero, List.getD_cons_succ, DC.bb_b, DC.ii_i, DC.ss_s, DC.ll_sl]
  rw [cmp_at (l := a.faces) (m := b.faces) (fin := .ex 0 [.i a.kind, .b a.ext, .s a.desc, .s a.name, .sl (a.faces.map S1), .sl (a.fields.map TFieldDef.enc), .sl (a.inputs.map TInDef.enc), .sl (a.values.map TEnumDef.enc), .sl (a.roots.map TRoot.enc), .b a.repeat', .sl (a.dirs.map TDir.enc), .i b.kind, .b b.ext, .s b.desc, .s b.name, .sl (b.faces.map S1), .sl (b.fields.map TFieldDef.enc), .sl (b.inputs.map TInDef.enc), .sl (b.values.map TEnumDef.enc), .sl (b.roots.map TRoot.enc), .b b.repeat', .sl (b.dirs.map TDir.enc)]) 0 rfl (len_true q5) (fun i h h2 => ?step1) ?fin1 (Out.esc_ex _ _)]
  case fin1 => simp [E_spec_l14SameDefL1]
  case step1 =>
    have c1 : (i : Int) < (a.faces.length : Int) := by omega
    have c2 : (i : Int) < (b.faces.length : Int) := by omega
    have ww := wrap_succ h (show a.faces.length ≤ 9223372036854775807 by have := w.1; omega)
    simp only [E_spec_l14SameDefL1, List.getD_cons_zero, List.getD_cons_succ, DC.bb_b, DC.ii_i, DC.ss_s, DC.ll_sl, List.set_cons_zero, List.set_cons_succ, List.length_map, c1, c2, decide_true, if_true, Int.toNat_natCast, map_getD h, map_getD h2, S1, Out.bindR_ret, Out.andThen_norm, beq_eqv, bne_eqv, Bool.and_true, ← eqv_Type, List.length_map]
    cases q0 : eqv a.faces[i] b.faces[i] with
    | false => simp [q0, h, h2, c1, c2, ww, map_getD h, map_getD h2]
    | true =>
    simp [q0, h, h2, c1, c2, ww, map_getD h, map_getD h2]
  cases p0 : eqv a.faces b.faces with
  | false => simp [eqv_Def a b, p0]
  | true =>
  simp only [if_true, Out.andThenB_ex, List.getD_cons_zero, List.getD_cons_succ, DC.bb_b, DC.ii_i, DC.ss_s, DC.ll_sl]
  rw [cmp_at (l := a.fields) (m := b.fields) (fin := .ex 2 [.i a.kind, .b a.ext, .s a.desc, .s a.name, .sl (a.faces.map S1), .sl (a.fields.map TFieldDef.enc), .sl (a.inputs.map TInDef.enc), .sl (a.values.map TEnumDef.enc), .sl (a.roots.map TRoot.enc), .b a.repeat', .sl (a.dirs.map TDir.enc), .i b.kind, .b b.ext, .s b.desc, .s b.name, .sl (b.faces.map S1), .sl (b.fields.map TFieldDef.enc), .sl (b.inputs.map TInDef.enc), .sl (b.values.map TEnumDef.enc), .sl (b.roots.map TRoot.enc), .b b.repeat', .sl (b.dirs.map TDir.enc)]) 0 rfl (len_true q6) (fun i h h2 => ?step2) ?fin2 (Out.esc_ex _ _)]
  case fin2 => simp [E_spec_l14SameDefL2]
  case step2 =>
    have key0 := spec_l14SameIn_ok a.fields[i].args b.fields[i].args (wt_FieldDef (w.2.2.1 _ (List.getElem_mem h))).1 (wt_FieldDef (w.2.2.1 _ (List.getElem_mem h))).2.1
    have key1 := spec_l10SameDirs_ok a.fields[i].dirs b.fields[i].dirs (wt_FieldDef (w.2.2.1 _ (List.getElem_mem h))).2.2.1 (wt_FieldDef (w.2.2.1 _ (List.getElem_mem h))).2.2.2.1
    have c1 : (i : Int) < (a.fields.length : Int) := by omega
    have c2 : (i : Int) < (b.fields.length : Int) := by omega
    have ww := wrap_succ h (show a.fields.length ≤ 9223372036854775807 by have := w.2.1; omega)
    simp only [E_spec_l14SameDefL2, List.getD_cons_zero, List.getD_cons_succ, DC.bb_b, DC.ii_i, DC.ss_s, DC.ll_sl, List.set_cons_zero, List.set_cons_succ, List.length_map, c1, c2, decide_true, if_true, Int.toNat_natCast, map_getD h, map_getD h2, TFieldDef.enc_eq, key0, key1, Out.bindR_ret, Out.andThen_norm, beq_eqv, bne_eqv, Bool.and_true, ← eqv_Type, eqv_FieldDef a.fields[i] b.fields[i]]
    cases q0 : eqv a.fields[i].name b.fields[i].name with
    | false => simp [q0, h, h2, c1, c2, ww, map_getD h, map_getD h2, TFieldDef.enc_eq]
    | true =>
    cases q1 : eqv a.fields[i].desc b.fields[i].desc with
    | false => simp [q0, q1, h, h2, c1, c2, ww, map_getD h, map_getD h2, TFieldDef.enc_eq]
    | true =>
    cases q2 : eqv a.fields[i].type' b.fields[i].type' with
    | false => simp [q0, q1, q2, h, h2, c1, c2, ww, map_getD h, map_getD h2, TFieldDef.enc_eq]
    | true =>
    cases q3 : eqv a.fields[i].args b.fields[i].args with
    | false => simp [q0, q1, q2, q3, h, h2, c1, c2, ww, map_getD h, map_getD h2, TFieldDef.enc_eq]
    | true =>
    cases q4 : eqv a.fields[i].dirs b.fields[i].dirs with
    | false => simp [q0, q1, q2, q3, q4, h, h2, c1, c2, ww, map_getD h, map_getD h2, TFieldDef.enc_eq]
    | true =>
    simp [q0, q1, q2, q3, q4, h, h2, c1, c2, ww, map_getD h, map_getD h2, TFieldDef.enc_eq]
  cases p1 : eqv a.fields b.fields with
  | false => simp [eqv_Def a b, p1]
  | true =>
  simp only [if_true, Out.andThenB_ex, List.getD_cons_zero, List.getD_cons_succ, DC.bb_b, DC.ii_i, DC.ss_s, DC.ll_sl]
  rw [cmp_at (l := a.values) (m := b.values) (fin := .ex 4 [.i a.kind, .b a.ext, .s a.desc, .s a.name, .sl (a.faces.map S1), .sl (a.fields.map TFieldDef.enc), .sl (a.inputs.map TInDef.enc), .sl (a.values.map TEnumDef.enc), .sl (a.roots.map TRoot.enc), .b a.repeat', .sl (a.dirs.map TDir.enc), .i b.kind, .b b.ext, .s b.desc, .s b.name, .sl (b.faces.map S1), .sl (b.fields.map TFieldDef.enc), .sl (b.inputs.map TInDef.enc), .sl (b.values.map TEnumDef.enc), .sl (b.roots.map TRoot.enc), .b b.repeat', .sl (b.dirs.map TDir.enc)]) 0 rfl (len_true q7) (fun i h h2 => ?step3) ?fin3 (Out.esc_ex _ _)]
  case fin3 => simp [E_spec_l14SameDefL3]
  case step3 =>
    have key0 := spec_l10SameDirs_ok a.values[i].dirs b.values[i].dirs (wt_EnumDef (w.2.2.2.2.2.2.1 _ (List.getElem_mem h))).1 (wt_EnumDef (w.2.2.2.2.2.2.1 _ (List.getElem_mem h))).2
    have c1 : (i : Int) < (a.values.length : Int) := by omega
    have c2 : (i : Int) < (b.values.length : Int) := by omega
    have ww := wrap_succ h (show a.values.length ≤ 9223372036854775807 by have := w.2.2.2.2.2.1; omega)
    simp only [E_spec_l14SameDefL3, List.getD_cons_zero, List.getD_cons_succ, DC.bb_b, DC.ii_i, DC.ss_s, DC.ll_sl, List.set_cons_zero, List.set_cons_succ, List.length_map, c1, c2, decide_true, if_true, Int.toNat_natCast, map_getD h, map_getD h2, TEnumDef.enc_eq, key0, Out.bindR_ret, Out.andThen_norm, beq_eqv, bne_eqv, Bool.and_true, ← eqv_Type, eqv_EnumDef a.values[i] b.values[i]]
    cases q0 : eqv a.values[i].name b.values[i].name with
    | false => simp [q0, h, h2, c1, c2, ww, map_getD h, map_getD h2, TEnumDef.enc_eq]
    | true =>
    cases q1 : eqv a.values[i].desc b.values[i].desc with
    | false => simp [q0, q1, h, h2, c1, c2, ww, map_getD h, map_getD h2, TEnumDef.enc_eq]
    | true =>
    cases q2 : eqv a.values[i].dirs b.values[i].dirs with
    | false => simp [q0, q1, q2, h, h2, c1, c2, ww, map_getD h, map_getD h2, TEnumDef.enc_eq]
    | true =>
    simp [q0, q1, q2, h, h2, c1, c2, ww, map_getD h, map_getD h2, TEnumDef.enc_eq]
  cases p2 : eqv a.values b.values with
  | false => simp [eqv_Def a b, p2]
  | true =>
  simp only [if_true, Out.andThenB_ex, List.getD_cons_zero, List.getD_cons_succ, DC.bb_b, DC.ii_i, DC.ss_s, DC.ll_sl]
  rw [cmp_at (l := a.roots) (m := b.roots) (fin := .ex 6 []) 0 rfl (len_true q8) (fun i h h2 => ?step4) ?fin4 (Out.esc_ex _ _)]
  case fin4 => simp [E_spec_l14SameDefL4]
  case step4 =>
    have c1 : (i : Int) < (a.roots.length : Int) := by omega
    have c2 : (i : Int) < (b.roots.length : Int) := by omega
    have ww := wrap_succ h (show a.roots.length ≤ 9223372036854775807 by have := w.2.2.2.2.2.2.2.1; omega)
    simp only [E_spec_l14SameDefL4, List.getD_cons_zero, List.getD_cons_succ, DC.bb_b, DC.ii_i, DC.ss_s, DC.ll_sl, List.set_cons_zero, List.set_cons_succ, List.length_map, c1, c2, decide_true, if_true, Int.toNat_natCast, map_getD h, map_getD h2, TRoot.enc_eq, Out.bindR_ret, Out.andThen_norm, beq_eqv, bne_eqv, Bool.and_true, ← eqv_Type, eqv_Root a.roots[i] b.roots[i]]
    cases q0 : eqv a.roots[i].kind b.roots[i].kind with
    | false => simp [q0, h, h2, c1, c2, ww, map_getD h, map_getD h2, TRoot.enc_eq]
    | true =>
    cases q1 : eqv a.roots[i].type' b.roots[i].type' with
    | false => simp [q0, q1, h, h2, c1, c2, ww, map_getD h, map_getD h2, TRoot.enc_eq]
    | true =>
    simp [q0, q1, h, h2, c1, c2, ww, map_getD h, map_getD h2, TRoot.enc_eq]
  cases p3 : eqv a.roots b.roots with
  | false => simp [eqv_Def a b, p3]
  | true => simp [eqv_Def a b, p0, p1, p2, p3, q0, q1, q2, q3, q4, q5, q6, q7, q8, q9, q10]
end Go.Proofs.YtljggmbgbnmapaaGreatV
