/- Sameness of selections, questions, pieces and documents: what both implementations answer. -/
import Derived.Test.YtljggmbgbnmapaaGreatQ2
namespace Go.Proofs.YtljggmbgbnmapaaGreatV
open Go
set_option linter.unusedVariables false
set_option linter.unusedSimpArgs false
set_option maxRecDepth 100000

theorem eqv_Sel (a b : TSel) : eqv a b = (eqv a.kind b.kind && eqv a.alias b.alias && eqv a.name b.name && eqv a.on' b.on' && eqv a.args b.args && eqv a.dirs b.dirs && eqv a.sels b.sels) := by
  rw [Bool.eq_iff_iff, eqv_iff]
  simp only [Bool.and_eq_true, eqv_iff]
  cases a
  cases b
  simp only [TSel.mk.injEq, and_assoc]
theorem eqv_VarDef (a b : TVarDef) : eqv a b = (eqv a.name b.name && eqv a.type' b.type' && eqv a.has' b.has' && eqv a.default' b.default' && eqv a.dirs b.dirs) := by
  rw [Bool.eq_iff_iff, eqv_iff]
  simp only [Bool.and_eq_true, eqv_iff]
  cases a
  cases b
  simp only [TVarDef.mk.injEq, and_assoc]
theorem eqv_Op (a b : TOp) : eqv a b = (eqv a.kind b.kind && eqv a.name b.name && eqv a.vars b.vars && eqv a.dirs b.dirs && eqv a.sels b.sels) := by
  rw [Bool.eq_iff_iff, eqv_iff]
  simp only [Bool.and_eq_true, eqv_iff]
  cases a
  cases b
  simp only [TOp.mk.injEq, and_assoc]
theorem eqv_Frag (a b : TFrag) : eqv a b = (eqv a.name b.name && eqv a.on' b.on' && eqv a.dirs b.dirs && eqv a.sels b.sels) := by
  rw [Bool.eq_iff_iff, eqv_iff]
  simp only [Bool.and_eq_true, eqv_iff]
  cases a
  cases b
  simp only [TFrag.mk.injEq, and_assoc]
theorem eqv_Item (a b : TItem) : eqv a b = (eqv a.kind b.kind && eqv a.op b.op && eqv a.frag b.frag && eqv a.def' b.def') := by
  rw [Bool.eq_iff_iff, eqv_iff]
  simp only [Bool.and_eq_true, eqv_iff]
  cases a
  cases b
  simp only [TItem.mk.injEq, and_assoc]
theorem eqv_Doc (a b : TDoc) : eqv a b = (eqv a.items b.items) := by
  rw [Bool.eq_iff_iff, eqv_iff]
  simp only [Bool.and_eq_true, eqv_iff]
  cases a
  cases b
  simp only [TDoc.mk.injEq, and_assoc]
theorem wt_Sel {v : TSel} (h : wtL v.enc ≤ 1048576) : v.args.length ≤ 1048576 ∧ (∀ x ∈ v.args, wtL x.enc ≤ 1048576) ∧ v.dirs.length ≤ 1048576 ∧ (∀ x ∈ v.dirs, wtL x.enc ≤ 1048576) ∧ v.sels.length ≤ 1048576 ∧ (∀ x ∈ v.sels, wtL x.enc ≤ 1048576) := by
  simp only [TSel.enc_eq, wtL, DC.wt, List.length_map] at h ⊢
  exact ⟨by omega, fun x hx => by have := wtV_mem (List.mem_map_of_mem (f := TArg.enc) hx); first | omega | (simp only [TArg.enc_eq, wtL, DC.wt, List.length_map] at this ⊢; omega), by omega, fun x hx => by have := wtV_mem (List.mem_map_of_mem (f := TDir.enc) hx); first | omega | (simp only [TDir.enc_eq, wtL, DC.wt, List.length_map] at this ⊢; omega), by omega, fun x hx => by have := wtV_mem (List.mem_map_of_mem (f := TSel.enc) hx); first | omega | (simp only [TSel.enc_eq, wtL, DC.wt, List.length_map] at this ⊢; omega)⟩
theorem wt_VarDef {v : TVarDef} (h : wtL v.enc ≤ 1048576) : v.dirs.length ≤ 1048576 ∧ (∀ x ∈ v.dirs, wtL x.enc ≤ 1048576) ∧ wtL (TType.enc v.type') ≤ 1048576 ∧ wtL (TValue.enc v.default') ≤ 1048576 := by
  simp only [TVarDef.enc_eq, TType.enc_eq, TValue.enc_eq, wtL, DC.wt, List.length_map] at h ⊢
  exact ⟨by omega, fun x hx => by have := wtV_mem (List.mem_map_of_mem (f := TDir.enc) hx); first | omega | (simp only [TDir.enc_eq, wtL, DC.wt, List.length_map] at this ⊢; omega), by omega, by omega⟩
theorem wt_Op {v : TOp} (h : wtL v.enc ≤ 1048576) : v.vars.length ≤ 1048576 ∧ (∀ x ∈ v.vars, wtL x.enc ≤ 1048576) ∧ v.dirs.length ≤ 1048576 ∧ (∀ x ∈ v.dirs, wtL x.enc ≤ 1048576) ∧ v.sels.length ≤ 1048576 ∧ (∀ x ∈ v.sels, wtL x.enc ≤ 1048576) := by
  simp only [TOp.enc_eq, wtL, DC.wt, List.length_map] at h ⊢
  exact ⟨by omega, fun x hx => by have := wtV_mem (List.mem_map_of_mem (f := TVarDef.enc) hx); first | omega | (simp only [TVarDef.enc_eq, wtL, DC.wt, List.length_map] at this ⊢; omega), by omega, fun x hx => by have := wtV_mem (List.mem_map_of_mem (f := TDir.enc) hx); first | omega | (simp only [TDir.enc_eq, wtL, DC.wt, List.length_map] at this ⊢; omega), by omega, fun x hx => by have := wtV_mem (List.mem_map_of_mem (f := TSel.enc) hx); first | omega | (simp only [TSel.enc_eq, wtL, DC.wt, List.length_map] at this ⊢; omega)⟩
theorem wt_Frag {v : TFrag} (h : wtL v.enc ≤ 1048576) : v.dirs.length ≤ 1048576 ∧ (∀ x ∈ v.dirs, wtL x.enc ≤ 1048576) ∧ v.sels.length ≤ 1048576 ∧ (∀ x ∈ v.sels, wtL x.enc ≤ 1048576) := by
  simp only [TFrag.enc_eq, wtL, DC.wt, List.length_map] at h ⊢
  exact ⟨by omega, fun x hx => by have := wtV_mem (List.mem_map_of_mem (f := TDir.enc) hx); first | omega | (simp only [TDir.enc_eq, wtL, DC.wt, List.length_map] at this ⊢; omega), by omega, fun x hx => by have := wtV_mem (List.mem_map_of_mem (f := TSel.enc) hx); first | omega | (simp only [TSel.enc_eq, wtL, DC.wt, List.length_map] at this ⊢; omega)⟩
theorem wt_Item {v : TItem} (h : wtL v.enc ≤ 1048576) : wtL (TOp.enc v.op) ≤ 1048576 ∧ wtL (TFrag.enc v.frag) ≤ 1048576 ∧ wtL (TDef.enc v.def') ≤ 1048576 := by
  have e : v.enc = [.i v.kind] ++ (v.op.enc ++ (v.frag.enc ++ v.def'.enc)) := rfl
  rw [e, wtL_append, wtL_append, wtL_append] at h
  exact ⟨by omega, by omega, by omega⟩
theorem wt_Doc {v : TDoc} (h : wtL v.enc ≤ 1048576) : v.items.length ≤ 1048576 ∧ (∀ x ∈ v.items, wtL x.enc ≤ 1048576) := by
  simp only [TDoc.enc_eq, wtL, DC.wt, List.length_map] at h ⊢
  exact ⟨by omega, fun x hx => by have := wtV_mem (List.mem_map_of_mem (f := TItem.enc) hx); first | omega | (simp only [TItem.enc_eq, wtL, DC.wt, List.length_map] at this ⊢; omega)⟩
theorem slices_EqualFunc_impl_Sel__impl_sameSel_ok (l m : List TSel) (hl : l.length ≤ 1048576) (hs : ∀ x ∈ l, ∀ y, r_impl_sameSel [.i x.kind, .s x.alias, .s x.name, .s x.on', .sl (x.args.map TArg.enc), .sl (x.dirs.map TDir.enc), .sl (x.sels.map TSel.enc), .i y.kind, .s y.alias, .s y.name, .s y.on', .sl (y.args.map TArg.enc), .sl (y.dirs.map TDir.enc), .sl (y.sels.map TSel.enc)] = .ret [.b (eqv x y)]) : r_slices_EqualFunc_impl_Sel__impl_sameSel [.sl (l.map TSel.enc), .sl (m.map TSel.enc)] = .ret [.b (eqv l m)] := by
  rw [eq_slices_EqualFunc_impl_Sel__impl_sameSel]
  simp only [E_slices_EqualFunc_impl_Sel__impl_sameSel, List.getD_cons_zero, List.getD_cons_succ, DC.bb_b, DC.ii_i, DC.ss_s, DC.ll_sl, List.length_map]
  refine eqf_all (enc := TSel.enc) true (fun i h h2 => ?_) ?_
  · have key := hs l[i] (List.getElem_mem h) m[i]
    simp only [if_true, Bool.false_eq_true, if_false, E_slices_EqualFunc_impl_Sel__impl_sameSelL1, List.getD_cons_zero, List.getD_cons_succ, DC.bb_b, DC.ii_i, DC.ss_s, DC.ll_sl, Int.toNat_natCast, List.length_map, map_getD h, map_getD h2, TSel.enc_eq] at key ⊢
    simp only [key, Out.bindR_ret, List.getD_cons_zero, List.getD_cons_succ, DC.bb_b, DC.ii_i, DC.ss_s, DC.ll_sl]
    cases eqv l[i] m[i] <;> simp [h, h2, wrap_succ h (show l.length ≤ 9223372036854775807 by omega)]
  · simp [E_slices_EqualFunc_impl_Sel__impl_sameSelL1]
theorem impl_sameSel_ok (a : TSel) : wtL a.enc ≤ 1048576 → ∀ b : TSel, r_impl_sameSel [.i a.kind, .s a.alias, .s a.name, .s a.on', .sl (a.args.map TArg.enc), .sl (a.dirs.map TDir.enc), .sl (a.sels.map TSel.enc), .i b.kind, .s b.alias, .s b.name, .s b.on', .sl (b.args.map TArg.enc), .sl (b.dirs.map TDir.enc), .sl (b.sels.map TSel.enc)] = .ret [.b (eqv a b)] := by
  induction a using TSel.ind with | h a ih =>
  intro ha b
  have w := wt_Sel ha
  rw [eq_impl_sameSel]
  simp only [E_impl_sameSel, List.getD_cons_zero, List.getD_cons_succ, DC.bb_b, DC.ii_i, DC.ss_s, DC.ll_sl, impl_SameArgs_ok a.args b.args w.1 w.2.1, impl_sameDirs_ok a.dirs b.dirs w.2.2.1 w.2.2.2.1, slices_EqualFunc_impl_Sel__impl_sameSel_ok a.sels b.sels w.2.2.2.2.1 (fun x hx => ih x hx (w.2.2.2.2.2 x hx)), Out.bindR_ret, beq_eqv, bne_eqv, Bool.and_true, ← eqv_Type]
  rw [eqv_Sel a b]
  cases q0 : eqv a.kind b.kind with
  | false => simp [q0]
  | true =>
  cases q1 : eqv a.alias b.alias with
  | false => simp [q0, q1]
  | true =>
  cases q2 : eqv a.name b.name with
  | false => simp [q0, q1, q2]
  | true =>
  cases q3 : eqv a.on' b.on' with
  | false => simp [q0, q1, q2, q3]
  | true =>
  cases q4 : eqv a.args b.args with
  | false => simp [q0, q1, q2, q3, q4]
  | true =>
  cases q5 : eqv a.dirs b.dirs with
  | false => simp [q0, q1, q2, q3, q4, q5]
  | true =>
  cases q6 : eqv a.sels b.sels with
  | false => simp [q0, q1, q2, q3, q4, q5, q6]
  | true =>
  simp [q0, q1, q2, q3, q4, q5, q6]
theorem impl_sameVar_ok (a : TVarDef) (ha : wtL a.enc ≤ 1048576) (b : TVarDef) : r_impl_sameVar [.s a.name, .s a.type'.name, .s a.type'.wraps, .b a.has', .i a.default'.kind, .s a.default'.text, .sl (a.default'.items.map TValue.enc), .sl (a.default'.names.map S1), .sl (a.dirs.map TDir.enc), .s b.name, .s b.type'.name, .s b.type'.wraps, .b b.has', .i b.default'.kind, .s b.default'.text, .sl (b.default'.items.map TValue.enc), .sl (b.default'.names.map S1), .sl (b.dirs.map TDir.enc)] = .ret [.b (eqv a b)] := by
  have w := wt_VarDef ha
  rw [eq_impl_sameVar]
  simp only [E_impl_sameVar, List.getD_cons_zero, List.getD_cons_succ, DC.bb_b, DC.ii_i, DC.ss_s, DC.ll_sl, impl_SameValue_ok a.default' w.2.2.2 b.default', impl_sameDirs_ok a.dirs b.dirs w.1 w.2.1, Out.bindR_ret, beq_eqv, bne_eqv, Bool.and_true, ← eqv_Type]
  rw [eqv_VarDef a b]
  cases q0 : eqv a.name b.name with
  | false => simp [q0]
  | true =>
  cases q1 : eqv a.type' b.type' with
  | false => simp [q0, q1]
  | true =>
  cases q2 : eqv a.has' b.has' with
  | false => simp [q0, q1, q2]
  | true =>
  cases q3 : eqv a.default' b.default' with
  | false => simp [q0, q1, q2, q3]
  | true =>
  cases q4 : eqv a.dirs b.dirs with
  | false => simp [q0, q1, q2, q3, q4]
  | true =>
  simp [q0, q1, q2, q3, q4]
theorem slices_EqualFunc_impl_VarDef__impl_sameVar_ok (l m : List TVarDef) (hl : l.length ≤ 1048576) (hs : ∀ x ∈ l, ∀ y, r_impl_sameVar [.s x.name, .s x.type'.name, .s x.type'.wraps, .b x.has', .i x.default'.kind, .s x.default'.text, .sl (x.default'.items.map TValue.enc), .sl (x.default'.names.map S1), .sl (x.dirs.map TDir.enc), .s y.name, .s y.type'.name, .s y.type'.wraps, .b y.has', .i y.default'.kind, .s y.default'.text, .sl (y.default'.items.map TValue.enc), .sl (y.default'.names.map S1), .sl (y.dirs.map TDir.enc)] = .ret [.b (eqv x y)]) : r_slices_EqualFunc_impl_VarDef__impl_sameVar [.sl (l.map TVarDef.enc), .sl (m.map TVarDef.enc)] = .ret [.b (eqv l m)] := by
  rw [eq_slices_EqualFunc_impl_VarDef__impl_sameVar]
  simp only [E_slices_EqualFunc_impl_VarDef__impl_sameVar, List.getD_cons_zero, List.getD_cons_succ, DC.bb_b, DC.ii_i, DC.ss_s, DC.ll_sl, List.length_map]
  refine eqf_all (enc := TVarDef.enc) true (fun i h h2 => ?_) ?_
  · have key := hs l[i] (List.getElem_mem h) m[i]
    simp only [if_true, Bool.false_eq_true, if_false, E_slices_EqualFunc_impl_VarDef__impl_sameVarL1, List.getD_cons_zero, List.getD_cons_succ, DC.bb_b, DC.ii_i, DC.ss_s, DC.ll_sl, Int.toNat_natCast, List.length_map, map_getD h, map_getD h2, TVarDef.enc_eq] at key ⊢
    simp only [key, Out.bindR_ret, List.getD_cons_zero, List.getD_cons_succ, DC.bb_b, DC.ii_i, DC.ss_s, DC.ll_sl]
    cases eqv l[i] m[i] <;> simp [h, h2, wrap_succ h (show l.length ≤ 9223372036854775807 by omega)]
  · simp [E_slices_EqualFunc_impl_VarDef__impl_sameVarL1]
theorem impl_sameItem_ok (a : TItem) (ha : wtL a.enc ≤ 1048576) (b : TItem) : r_impl_sameItem [.i a.kind, .i a.op.kind, .s a.op.name, .sl (a.op.vars.map TVarDef.enc), .sl (a.op.dirs.map TDir.enc), .sl (a.op.sels.map TSel.enc), .s a.frag.name, .s a.frag.on', .sl (a.frag.dirs.map TDir.enc), .sl (a.frag.sels.map TSel.enc), .i a.def'.kind, .b a.def'.ext, .s a.def'.desc, .s a.def'.name, .sl (a.def'.faces.map S1), .sl (a.def'.fields.map TFieldDef.enc), .sl (a.def'.inputs.map TInDef.enc), .sl (a.def'.values.map TEnumDef.enc), .sl (a.def'.roots.map TRoot.enc), .b a.def'.repeat', .sl (a.def'.dirs.map TDir.enc), .i b.kind, .i b.op.kind, .s b.op.name, .sl (b.op.vars.map TVarDef.enc), .sl (b.op.dirs.map TDir.enc), .sl (b.op.sels.map TSel.enc), .s b.frag.name, .s b.frag.on', .sl (b.frag.dirs.map TDir.enc), .sl (b.frag.sels.map TSel.enc), .i b.def'.kind, .b b.def'.ext, .s b.def'.desc, .s b.def'.name, .sl (b.def'.faces.map S1), .sl (b.def'.fields.map TFieldDef.enc), .sl (b.def'.inputs.map TInDef.enc), .sl (b.def'.values.map TEnumDef.enc), .sl (b.def'.roots.map TRoot.enc), .b b.def'.repeat', .sl (b.def'.dirs.map TDir.enc)] = .ret [.b (eqv a b)] := by
  have w := wt_Item ha
  have wo := wt_Op w.1
  have wf := wt_Frag w.2.1
  have k1 := slices_EqualFunc_impl_VarDef__impl_sameVar_ok a.op.vars b.op.vars wo.1 (fun x hx y => impl_sameVar_ok x (wo.2.1 x hx) y)
  have k2 := impl_sameDirs_ok a.op.dirs b.op.dirs wo.2.2.1 wo.2.2.2.1
  have k3 := slices_EqualFunc_impl_Sel__impl_sameSel_ok a.op.sels b.op.sels wo.2.2.2.2.1 (fun x hx y => impl_sameSel_ok x (wo.2.2.2.2.2 x hx) y)
  have k4 := impl_sameDirs_ok a.frag.dirs b.frag.dirs wf.1 wf.2.1
  have k5 := slices_EqualFunc_impl_Sel__impl_sameSel_ok a.frag.sels b.frag.sels wf.2.2.1 (fun x hx y => impl_sameSel_ok x (wf.2.2.2 x hx) y)
  have k6 := impl_sameDef_ok a.def' w.2.2 b.def'
  rw [eq_impl_sameItem]
  simp only [E_impl_sameItem, List.getD_cons_zero, List.getD_cons_succ, DC.bb_b, DC.ii_i, DC.ss_s, DC.ll_sl, k1, k2, k3, k4, k5, k6, Out.bindR_ret, beq_eqv, bne_eqv, Bool.and_true]
  rw [eqv_Item a b, eqv_Op a.op b.op, eqv_Frag a.frag b.frag]
  cases q0 : eqv a.kind b.kind with
  | false => simp [q0, k1, k2, k3, k4, k5, k6]
  | true =>
  cases q1 : eqv a.op.kind b.op.kind with
  | false => simp [q0, q1, k1, k2, k3, k4, k5, k6]
  | true =>
  cases q2 : eqv a.op.name b.op.name with
  | false => simp [q0, q1, q2, k1, k2, k3, k4, k5, k6]
  | true =>
  cases q3 : eqv a.op.vars b.op.vars with
  | false => simp [q0, q1, q2, q3, k1, k2, k3, k4, k5, k6]
  | true =>
  cases q4 : eqv a.op.dirs b.op.dirs with
  | false => simp [q0, q1, q2, q3, q4, k1, k2, k3, k4, k5, k6]
  | true =>
  cases q5 : eqv a.op.sels b.op.sels with
  | false => simp [q0, q1, q2, q3, q4, q5, k1, k2, k3, k4, k5, k6]
  | true =>
  cases q6 : eqv a.frag.name b.frag.name with
  | false => simp [q0, q1, q2, q3, q4, q5, q6, k1, k2, k3, k4, k5, k6]
  | true =>
  cases q7 : eqv a.frag.on' b.frag.on' with
  | false => simp [q0, q1, q2, q3, q4, q5, q6, q7, k1, k2, k3, k4, k5, k6]
  | true =>
  cases q8 : eqv a.frag.dirs b.frag.dirs with
  | false => simp [q0, q1, q2, q3, q4, q5, q6, q7, q8, k1, k2, k3, k4, k5, k6]
  | true =>
  cases q9 : eqv a.frag.sels b.frag.sels with
  | false => simp [q0, q1, q2, q3, q4, q5, q6, q7, q8, q9, k1, k2, k3, k4, k5, k6]
  | true =>
  cases q10 : eqv a.def' b.def' with
  | false => simp [q0, q1, q2, q3, q4, q5, q6, q7, q8, q9, q10, k1, k2, k3, k4, k5, k6]
  | true =>
  simp [q0, q1, q2, q3, q4, q5, q6, q7, q8, q9, q10, k1, k2, k3, k4, k5, k6]
theorem slices_EqualFunc_impl_Item__impl_sameItem_ok (l m : List TItem) (hl : l.length ≤ 1048576) (hs : ∀ x ∈ l, ∀ y, r_impl_sameItem [.i x.kind, .i x.op.kind, .s x.op.name, .sl (x.op.vars.map TVarDef.enc), .sl (x.op.dirs.map TDir.enc), .sl (x.op.sels.map TSel.enc), .s x.frag.name, .s x.frag.on', .sl (x.frag.dirs.map TDir.enc), .sl (x.frag.sels.map TSel.enc), .i x.def'.kind, .b x.def'.ext, .s x.def'.desc, .s x.def'.name, .sl (x.def'.faces.map S1), .sl (x.def'.fields.map TFieldDef.enc), .sl (x.def'.inputs.map TInDef.enc), .sl (x.def'.values.map TEnumDef.enc), .sl (x.def'.roots.map TRoot.enc), .b x.def'.repeat', .sl (x.def'.dirs.map TDir.enc), .i y.kind, .i y.op.kind, .s y.op.name, .sl (y.op.vars.map TVarDef.enc), .sl (y.op.dirs.map TDir.enc), .sl (y.op.sels.map TSel.enc), .s y.frag.name, .s y.frag.on', .sl (y.frag.dirs.map TDir.enc), .sl (y.frag.sels.map TSel.enc), .i y.def'.kind, .b y.def'.ext, .s y.def'.desc, .s y.def'.name, .sl (y.def'.faces.map S1), .sl (y.def'.fields.map TFieldDef.enc), .sl (y.def'.inputs.map TInDef.enc), .sl (y.def'.values.map TEnumDef.enc), .sl (y.def'.roots.map TRoot.enc), .b y.def'.repeat', .sl (y.def'.dirs.map TDir.enc)] = .ret [.b (eqv x y)]) : r_slices_EqualFunc_impl_Item__impl_sameItem [.sl (l.map TItem.enc), .sl (m.map TItem.enc)] = .ret [.b (eqv l m)] := by
  rw [eq_slices_EqualFunc_impl_Item__impl_sameItem]
  simp only [E_slices_EqualFunc_impl_Item__impl_sameItem, List.getD_cons_zero, List.getD_cons_succ, DC.bb_b, DC.ii_i, DC.ss_s, DC.ll_sl, List.length_map]
  refine eqf_all (enc := TItem.enc) true (fun i h h2 => ?_) ?_
  · have key := hs l[i] (List.getElem_mem h) m[i]
    simp only [if_true, Bool.false_eq_true, if_false, E_slices_EqualFunc_impl_Item__impl_sameItemL1, List.getD_cons_zero, List.getD_cons_succ, DC.bb_b, DC.ii_i, DC.ss_s, DC.ll_sl, Int.toNat_natCast, List.length_map, map_getD h, map_getD h2, TItem.enc_eq] at key ⊢
    simp only [key, Out.bindR_ret, List.getD_cons_zero, List.getD_cons_succ, DC.bb_b, DC.ii_i, DC.ss_s, DC.ll_sl]
    cases eqv l[i] m[i] <;> simp [h, h2, wrap_succ h (show l.length ≤ 9223372036854775807 by omega)]
  · simp [E_slices_EqualFunc_impl_Item__impl_sameItemL1]
theorem impl_SameDoc_ok (a : TDoc) (ha : wtL a.enc ≤ 1048576) (b : TDoc) : r_impl_SameDoc [.sl (a.items.map TItem.enc), .sl (b.items.map TItem.enc)] = .ret [.b (eqv a b)] := by
  have w := wt_Doc ha
  rw [eq_impl_SameDoc]
  simp only [E_impl_SameDoc, List.getD_cons_zero, List.getD_cons_succ, DC.bb_b, DC.ii_i, DC.ss_s, DC.ll_sl, slices_EqualFunc_impl_Item__impl_sameItem_ok a.items b.items w.1 (fun x hx y => impl_sameItem_ok x (w.2 x hx) y), Out.bindR_ret, eqv_Doc]
theorem spec_l11Same_ok (l : List TSel) : l.length ≤ 1048576 → (∀ x ∈ l, wtL x.enc ≤ 1048576) → ∀ m : List TSel, r_spec_l11Same [.sl (l.map TSel.enc), .sl (m.map TSel.enc)] = .ret [.b (eqv l m)] := by
  -- by what the deepest of them holds
  suffices key : ∀ (n : Nat) (l : List TSel), (∀ x ∈ l, SizeOf.sizeOf x < n) → l.length ≤ 1048576 → (∀ x ∈ l, wtL x.enc ≤ 1048576) → ∀ m : List TSel, r_spec_l11Same [.sl (l.map TSel.enc), .sl (m.map TSel.enc)] = .ret [.b (eqv l m)] from
    key (SizeOf.sizeOf l) l (fun x hx => List.sizeOf_lt_of_mem hx)
  intro n
  induction n with
  | zero =>
    intro l hn hl hw m
    cases l with
    | cons x l => exact absurd (hn x (by simp)) (Nat.not_lt_zero _)
    | nil =>
      rw [eq_spec_l11Same]
      cases m with
      | nil =>
        have : Loop E_spec_l11SameL1 [.sl [], .sl [], .i 0] = .ex 0 [] := Loop_ex (by simp [E_spec_l11SameL1])
        simp [E_spec_l11Same, this]
      | cons y m =>
        have : eqv ([] : List TSel) (y :: m) = false := by rw [eqv_false]; simp
        rw [this]
        simp [E_spec_l11Same]
        try omega
  | succ n ih =>
  intro l hn hl hw m
  rw [eq_spec_l11Same]
  simp only [E_spec_l11Same, List.getD_cons_zero, List.getD_cons_succ, DC.bb_b, DC.ii_i, DC.ss_s, DC.ll_sl, List.length_map, bne_eqv]
  cases q : eqv (l.length : Int) (m.length : Int) with
  | false => simp [len_false q]
  | true =>
  simp only [Bool.not_true, Bool.false_eq_true, if_false]
  rw [cmp_at (l := l) (m := m) (fin := .ex 0 []) 2 rfl (len_true q) (fun i h h2 => ?step) ?fin (Out.esc_ex _ _)]
  · cases eqv l m <;> simp
  case fin => simp [E_spec_l11SameL1]
  case step =>
  have w := wt_Sel (hw l[i] (List.getElem_mem h))
  have key0 := spec_SameArgs_ok l[i].args m[i].args w.1 w.2.1
  have key1 := spec_l10SameDirs_ok l[i].dirs m[i].dirs w.2.2.1 w.2.2.2.1
  have key2 := ih l[i].sels (fun x hx => by have h3 := TSel.lt hx; have h4 := hn l[i] (List.getElem_mem h); omega) w.2.2.2.2.1 w.2.2.2.2.2 m[i].sels
  have c1 : (i : Int) < (l.length : Int) := by omega
  have c2 : (i : Int) < (m.length : Int) := by omega
  simp only [E_spec_l11SameL1, List.getD_cons_zero, List.getD_cons_succ, DC.bb_b, DC.ii_i, DC.ss_s, DC.ll_sl, List.set_cons_zero, List.set_cons_succ, List.length_map, c1, c2, decide_true, if_true, Int.toNat_natCast, map_getD h, map_getD h2, TSel.enc_eq, key0, key1, key2, Out.bindR_ret, beq_eqv, bne_eqv, Bool.and_true, eqv_Sel l[i] m[i]]
  cases q0 : eqv l[i].kind m[i].kind with
  | false => simp [q0, h, h2, c1, c2, wrap_succ h (show l.length ≤ 9223372036854775807 by omega)]
  | true =>
  cases q1 : eqv l[i].alias m[i].alias with
  | false => simp [q0, q1, h, h2, c1, c2, wrap_succ h (show l.length ≤ 9223372036854775807 by omega)]
  | true =>
  cases q2 : eqv l[i].name m[i].name with
  | false => simp [q0, q1, q2, h, h2, c1, c2, wrap_succ h (show l.length ≤ 9223372036854775807 by omega)]
  | true =>
  cases q3 : eqv l[i].on' m[i].on' with
  | false => simp [q0, q1, q2, q3, h, h2, c1, c2, wrap_succ h (show l.length ≤ 9223372036854775807 by omega)]
  | true =>
  cases q4 : eqv l[i].args m[i].args with
  | false => simp [q0, q1, q2, q3, q4, h, h2, c1, c2, wrap_succ h (show l.length ≤ 9223372036854775807 by omega)]
  | true =>
  cases q5 : eqv l[i].dirs m[i].dirs with
  | false => simp [q0, q1, q2, q3, q4, q5, h, h2, c1, c2, wrap_succ h (show l.length ≤ 9223372036854775807 by omega)]
  | true =>
  cases q6 : eqv l[i].sels m[i].sels with
  | false => simp [q0, q1, q2, q3, q4, q5, q6, h, h2, c1, c2, wrap_succ h (show l.length ≤ 9223372036854775807 by omega)]
  | true =>
  simp [q0, q1, q2, q3, q4, q5, q6, h, h2, c1, c2, wrap_succ h (show l.length ≤ 9223372036854775807 by omega)]
theorem spec_l14SameOp_ok (a : TOp) (ha : wtL a.enc ≤ 1048576) (b : TOp) : r_spec_l14SameOp [.i a.kind, .s a.name, .sl (a.vars.map TVarDef.enc), .sl (a.dirs.map TDir.enc), .sl (a.sels.map TSel.enc), .i b.kind, .s b.name, .sl (b.vars.map TVarDef.enc), .sl (b.dirs.map TDir.enc), .sl (b.sels.map TSel.enc)] = .ret [.b (eqv a b)] := by
  have w := wt_Op ha
  have k1 := spec_l10SameDirs_ok a.dirs b.dirs w.2.2.1 w.2.2.2.1
  have k2 := spec_l11Same_ok a.sels w.2.2.2.2.1 w.2.2.2.2.2 b.sels
  rw [eq_spec_l14SameOp]
  simp only [E_spec_l14SameOp, List.getD_cons_zero, List.getD_cons_succ, DC.bb_b, DC.ii_i, DC.ss_s, DC.ll_sl, List.length_map, beq_eqv, bne_eqv, k1, k2, Out.bindR_ret]
  cases q0 : eqv a.kind b.kind with
  | false => simp [eqv_Op a b, q0]
  | true =>
  cases q1 : eqv a.name b.name with
  | false => simp [eqv_Op a b, q0, q1]
  | true =>
  cases q2 : eqv (a.vars.length : Int) (b.vars.length : Int) with
  | false => simp [eqv_Op a b, q0, q1, len_false q2]
  | true =>
  cases q3 : eqv a.dirs b.dirs with
  | false => simp [eqv_Op a b, q0, q1, q3]
  | true =>
  cases q4 : eqv a.sels b.sels with
  | false => simp [eqv_Op a b, q0, q1, q3, q4]
  | true =>
  simp only [Bool.not_true, Bool.false_eq_true, if_false, Out.andThen_norm, List.getD_cons_zero, List.getD_cons_succ, DC.bb_b, DC.ii_i, DC.ss_s, DC.ll_sl]
  rw [cmp_at (l := a.vars) (m := b.vars) (fin := .ex 0 []) 0 rfl (len_true q2) (fun i h h2 => ?step) ?fin (Out.esc_ex _ _)]
  · cases q5 : eqv a.vars b.vars <;> simp [eqv_Op a b, q0, q1, q3, q4, q5]
  case fin => simp [E_spec_l14SameOpL1]
  case step =>
  have wv := wt_VarDef (w.2.1 _ (List.getElem_mem h))
  have key0 := spec_SameValue_ok a.vars[i].default' wv.2.2.2 b.vars[i].default'
  have key1 := spec_l10SameDirs_ok a.vars[i].dirs b.vars[i].dirs wv.1 wv.2.1
  have c1 : (i : Int) < (a.vars.length : Int) := by omega
  have c2 : (i : Int) < (b.vars.length : Int) := by omega
  have ww := wrap_succ h (show a.vars.length ≤ 9223372036854775807 by have := w.1; omega)
  simp only [E_spec_l14SameOpL1, List.getD_cons_zero, List.getD_cons_succ, DC.bb_b, DC.ii_i, DC.ss_s, DC.ll_sl, List.set_cons_zero, List.set_cons_succ, List.length_map, c1, c2, decide_true, if_true, Int.toNat_natCast, map_getD h, map_getD h2, TVarDef.enc_eq, key0, key1, Out.bindR_ret, Out.andThen_norm, beq_eqv, bne_eqv, Bool.and_true, ← eqv_Type, eqv_VarDef a.vars[i] b.vars[i]]
  cases q0 : eqv a.vars[i].name b.vars[i].name with
  | false => simp [q0, h, h2, c1, c2, ww, key0, key1, map_getD h, map_getD h2, TVarDef.enc_eq]
  | true =>
  cases q1 : eqv a.vars[i].type' b.vars[i].type' with
  | false => simp [q0, q1, h, h2, c1, c2, ww, key0, key1, map_getD h, map_getD h2, TVarDef.enc_eq]
  | true =>
  cases q2 : eqv a.vars[i].has' b.vars[i].has' with
  | false => simp [q0, q1, q2, h, h2, c1, c2, ww, key0, key1, map_getD h, map_getD h2, TVarDef.enc_eq]
  | true =>
  cases q3 : eqv a.vars[i].default' b.vars[i].default' with
  | false => simp [q0, q1, q2, q3, h, h2, c1, c2, ww, key0, key1, map_getD h, map_getD h2, TVarDef.enc_eq]
  | true =>
  cases q4 : eqv a.vars[i].dirs b.vars[i].dirs with
  | false => simp [q0, q1, q2, q3, q4, h, h2, c1, c2, ww, key0, key1, map_getD h, map_getD h2, TVarDef.enc_eq]
  | true =>
  simp [q0, q1, q2, q3, q4, h, h2, c1, c2, ww, key0, key1, map_getD h, map_getD h2, TVarDef.enc_eq]
theorem spec_SameDoc_ok (a : TDoc) (ha : wtL a.enc ≤ 1048576) (b : TDoc) : r_spec_SameDoc [.sl (a.items.map TItem.enc), .sl (b.items.map TItem.enc)] = .ret [.b (eqv a b)] := by
  have w := wt_Doc ha
  rw [eq_spec_SameDoc, eqv_Doc a b]
  simp only [E_spec_SameDoc, List.getD_cons_zero, List.getD_cons_succ, DC.bb_b, DC.ii_i, DC.ss_s, DC.ll_sl, List.length_map, bne_eqv]
  cases q : eqv (a.items.length : Int) (b.items.length : Int) with
  | false => simp [len_false q]
  | true =>
  simp only [Bool.not_true, Bool.false_eq_true, if_false]
  rw [cmp_at (l := a.items) (m := b.items) (fin := .ex 0 []) 0 rfl (len_true q) (fun i h h2 => ?step) ?fin (Out.esc_ex _ _)]
  · cases eqv a.items b.items <;> simp
  case fin => simp [E_spec_SameDocL1]
  case step =>
  have wi := wt_Item (w.2 _ (List.getElem_mem h))
  have wf := wt_Frag wi.2.1
  have k1 := spec_l14SameOp_ok a.items[i].op wi.1 b.items[i].op
  have k2 := spec_l10SameDirs_ok a.items[i].frag.dirs b.items[i].frag.dirs wf.1 wf.2.1
  have k3 := spec_l11Same_ok a.items[i].frag.sels wf.2.2.1 wf.2.2.2 b.items[i].frag.sels
  have k4 := spec_l14SameDef_ok a.items[i].def' wi.2.2 b.items[i].def'
  have c1 : (i : Int) < (a.items.length : Int) := by omega
  have c2 : (i : Int) < (b.items.length : Int) := by omega
  have ww := wrap_succ h (show a.items.length ≤ 9223372036854775807 by have := w.1; omega)
  simp only [E_spec_SameDocL1, List.getD_cons_zero, List.getD_cons_succ, DC.bb_b, DC.ii_i, DC.ss_s, DC.ll_sl, List.set_cons_zero, List.set_cons_succ, List.length_map, c1, c2, decide_true, if_true, Int.toNat_natCast, map_getD h, map_getD h2, TItem.enc_eq, k1, k2, k3, k4, Out.bindR_ret, Out.andThen_norm, beq_eqv, bne_eqv, Bool.and_true, eqv_Item a.items[i] b.items[i], eqv_Frag a.items[i].frag b.items[i].frag]
  cases q0 : eqv a.items[i].kind b.items[i].kind with
  | false => simp [q0, h, h2, c1, c2, ww, k1, k2, k3, k4, map_getD h, map_getD h2, TItem.enc_eq]
  | true =>
  cases q1 : eqv a.items[i].op b.items[i].op with
  | false => simp [q0, q1, h, h2, c1, c2, ww, k1, k2, k3, k4, map_getD h, map_getD h2, TItem.enc_eq]
  | true =>
  cases q2 : eqv a.items[i].frag.name b.items[i].frag.name with
  | false => simp [q0, q1, q2, h, h2, c1, c2, ww, k1, k2, k3, k4, map_getD h, map_getD h2, TItem.enc_eq]
  | true =>
  cases q3 : eqv a.items[i].frag.on' b.items[i].frag.on' with
  | false => simp [q0, q1, q2, q3, h, h2, c1, c2, ww, k1, k2, k3, k4, map_getD h, map_getD h2, TItem.enc_eq]
  | true =>
  cases q4 : eqv a.items[i].frag.dirs b.items[i].frag.dirs with
  | false => simp [q0, q1, q2, q3, q4, h, h2, c1, c2, ww, k1, k2, k3, k4, map_getD h, map_getD h2, TItem.enc_eq]
  | true =>
  cases q5 : eqv a.items[i].frag.sels b.items[i].frag.sels with
  | false => simp [q0, q1, q2, q3, q4, q5, h, h2, c1, c2, ww, k1, k2, k3, k4, map_getD h, map_getD h2, TItem.enc_eq]
  | true =>
  cases q6 : eqv a.items[i].def' b.items[i].def' with
  | false => simp [q0, q1, q2, q3, q4, q5, q6, h, h2, c1, c2, ww, k1, k2, k3, k4, map_getD h, map_getD h2, TItem.enc_eq]
  | true =>
  simp [q0, q1, q2, q3, q4, q5, q6, h, h2, c1, c2, ww, k1, k2, k3, k4, map_getD h, map_getD h2, TItem.enc_eq]
end Go.Proofs.YtljggmbgbnmapaaGreatV
