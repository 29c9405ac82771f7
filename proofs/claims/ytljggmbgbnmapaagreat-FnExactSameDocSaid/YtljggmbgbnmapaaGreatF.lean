/- What the helpers of the laws do (written by a program). -/
import Derived.Test.YtljggmbgbnmapaaGreatGG
import Derived.Test.YtljggmbgbnmapaaGreatV34
namespace Go.Proofs.YtljggmbgbnmapaaGreatV
open Go
set_option linter.unusedVariables false
set_option linter.unusedSimpArgs false
set_option maxRecDepth 100000
theorem szS_String (ns : List (List UInt8)) (ok : (DC.sl (ns.map S1)).ok) (left : Int) (h0 : 0 ≤ left) (h1 : left ≤ 1048576) : r_laws_szStringS [.sl (ns.map S1), .i left] = .ret [.i (szR left (DC.wt (.sl (ns.map S1))))] := by
  rw [DC.ok, List.length_map] at ok
  obtain ⟨hl, ok⟩ := ok
  rw [eq_laws_szStringS]
  simp only [E_laws_szStringS, List.getD_cons_zero, List.getD_cons_succ, DC.bb_b, DC.ii_i, DC.ss_s, DC.ll_sl]
  refine szS_all hl (fun i hi left h0 h1 => ?_) (fun left => ?_) h0 h1
  · have hn := okV_mem ok (S1 ns[i]) (List.mem_map_of_mem (List.getElem_mem hi))
    simp only [S1, okL, DC.ok] at hn
    have hw : IntKind.i64.wrap (left - (ns[i].length : Int)) = left - (ns[i].length : Int) := wrap64 (by omega) (by omega)
    have hc1 : (i : Int) < (ns.length : Int) := by omega
    simp only [E_laws_szStringSL1, List.getD_cons_zero, List.getD_cons_succ, DC.bb_b, DC.ii_i, DC.ss_s, DC.ll_sl, Int.toNat_natCast, List.length_map, map_getD hi, S1, wtL, DC.wt, hw]
    by_cases hc : left < (ns[i].length : Int)
    · simp [hi, hc1, hc, show left - (ns[i].length : Int) < 0 by omega]
    · simp [hi, hc1, hc, show ¬ left - (ns[i].length : Int) < 0 by omega, wrap_succ hi hl]
  · simp [E_laws_szStringSL1]
theorem toS_String (ns : List (List UInt8)) (hl : ns.length ≤ 1048576) : r_laws_toStringS [.sl (ns.map S1)] = .ret [.sl (ns.map S1)] := by
  rw [eq_laws_toStringS]
  simp only [E_laws_toStringS, List.getD_cons_zero, List.getD_cons_succ, DC.bb_b, DC.ii_i, DC.ss_s, DC.ll_sl]
  rw [if_pos ⟨by omega, by rw [List.length_map]; exact lim_of hl, trivial, by omega, by omega⟩, Int.toNat_natCast, List.length_map, show (0 : Int) = ((0 : Nat) : Int) from rfl, toS_loop hl (fun i hi cur h1 h2 => ?_) (fun cur => ?_)]
  · rfl
  · have hc1 : (i : Int) < (ns.length : Int) := by omega
    simp only [E_laws_toStringSL1, List.getD_cons_zero, List.getD_cons_succ, DC.bb_b, DC.ii_i, DC.ss_s, DC.ll_sl, Int.toNat_natCast, List.length_map, map_getD hi, h1, h2, S1]
    simp [hi, hc1, wrap_succ hi (show ns.length ≤ 9223372036854775807 by omega), setRunD]
  · simp [E_laws_toStringSL1]
theorem eqS_String (ns : List (List UInt8)) (hl : ns.length ≤ 1048576) : r_laws_eqStringS [.sl (ns.map S1), .sl (ns.map S1)] = .ret [.b true] := by
  rw [eq_laws_eqStringS]
  simp only [E_laws_eqStringS, List.getD_cons_zero, List.getD_cons_succ, DC.bb_b, DC.ii_i, DC.ss_s, DC.ll_sl]
  refine eqS_all (fun i hi => ?_) ?_
  · rw [List.length_map] at hi
    have hc1 : (i : Int) < (ns.length : Int) := by omega
    simp only [E_laws_eqStringSL1, List.getD_cons_zero, List.getD_cons_succ, DC.bb_b, DC.ii_i, DC.ss_s, DC.ll_sl, Int.toNat_natCast, List.length_map, map_getD hi, S1]
    simp [hi, hc1, wrap_succ hi (show ns.length ≤ 9223372036854775807 by omega)]
  · simp [E_laws_eqStringSL1]
theorem wsum_Value (v : TValue) : wtL (TValue.enc v) = v.text.length + DC.wt (.sl (v.items.map TValue.enc)) + DC.wt (.sl (v.names.map S1)) := by
  simp only [TValue.enc_eq, wtL, DC.wt]
  try omega
theorem szS_Value' (vs : List TValue) (hs : ∀ v ∈ vs, okL (TValue.enc v) → ∀ left : Int, 0 ≤ left → left ≤ 1048576 → r_laws_szValue [.i v.kind, .s v.text, .sl (v.items.map TValue.enc), .sl (v.names.map S1), .i left] = .ret [.i (szR left (wtL (TValue.enc v)))]) (ok : (DC.sl (vs.map TValue.enc)).ok) (left : Int) (h0 : 0 ≤ left) (h1 : left ≤ 1048576) : r_laws_szValueS [.sl (vs.map TValue.enc), .i left] = .ret [.i (szR left (DC.wt (.sl (vs.map TValue.enc))))] := by
  rw [DC.ok, List.length_map] at ok
  obtain ⟨hl, ok⟩ := ok
  rw [eq_laws_szValueS]
  simp only [E_laws_szValueS, List.getD_cons_zero, List.getD_cons_succ, DC.bb_b, DC.ii_i, DC.ss_s, DC.ll_sl]
  refine szS_all hl (fun i hi left h0 h1 => ?_) (fun left => ?_) h0 h1
  · have key := hs vs[i] (List.getElem_mem hi) (okV_mem ok _ (List.mem_map_of_mem (List.getElem_mem hi))) left h0 h1
    generalize wtL (TValue.enc vs[i]) = w at key ⊢
    have hc1 : (i : Int) < (vs.length : Int) := by omega
    simp only [E_laws_szValueSL1, List.getD_cons_zero, List.getD_cons_succ, DC.bb_b, DC.ii_i, DC.ss_s, DC.ll_sl, Int.toNat_natCast, List.length_map, map_getD hi, TValue.enc_eq, key, Out.bindR_ret]
    by_cases hc : left < (w : Int)
    · simp [hi, hc1, hc, szR_lt hc]
    · simp [hi, hc1, hc, szR_ge hc, show ¬ left - (w : Int) < 0 by omega, wrap_succ hi hl]
  · simp [E_laws_szValueSL1]
theorem sz_Value (v : TValue) : okL (TValue.enc v) → ∀ left : Int, 0 ≤ left → left ≤ 1048576 → r_laws_szValue [.i v.kind, .s v.text, .sl (v.items.map TValue.enc), .sl (v.names.map S1), .i left] = .ret [.i (szR left (wtL (TValue.enc v)))] := by
  induction v using TValue.ind with | h v ih =>
  intro ok left h0 h1
  rw [TValue.enc_eq] at ok
  simp only [okL] at ok
  rw [eq_laws_szValue]
  simp only [E_laws_szValue, List.getD_cons_zero, List.getD_cons_succ, DC.bb_b, DC.ii_i, DC.ss_s, DC.ll_sl]
  rw [wsum_Value]
  have b0 : v.text.length ≤ 9223372036854775807 := by simpa only [DC.ok] using ok.2.1
  rw [show IntKind.i64.wrap (left - (v.text.length : Int)) = left - (v.text.length : Int) from wrap64 (by omega) (by omega)]
  by_cases c0 : left < ((v.text.length : Nat) : Int)
  · have c0' : left - ((v.text.length : Nat) : Int) < 0 := by omega
    simp only [c0', decide_true, if_true]
    try rw [szR_lt (by omega)]
  have c0' : ¬ left - ((v.text.length : Nat) : Int) < 0 := by omega
  simp only [c0', decide_false, Bool.false_eq_true, if_false]
  rw [szS_Value' v.items (fun x hx => ih x hx) ok.2.2.1 ((left - ((v.text.length : Nat) : Int))) (by omega) (by omega)]
  simp only [Out.bindR_ret, List.getD_cons_zero, List.getD_cons_succ, DC.bb_b, DC.ii_i, DC.ss_s, DC.ll_sl]
  by_cases c1 : (left - ((v.text.length : Nat) : Int)) < ((DC.wt (.sl (v.items.map TValue.enc)) : Nat) : Int)
  · rw [szR_lt c1]
    simp only [show (-1 : Int) < 0 by omega, decide_true, if_true]
    try rw [szR_lt (by omega)]
  rw [szR_ge c1]
  have c1' : ¬ (left - ((v.text.length : Nat) : Int)) - ((DC.wt (.sl (v.items.map TValue.enc)) : Nat) : Int) < 0 := by omega
  simp only [c1', decide_false, Bool.false_eq_true, if_false]
  rw [szS_String v.names ok.2.2.2.1 (((left - ((v.text.length : Nat) : Int)) - ((DC.wt (.sl (v.items.map TValue.enc)) : Nat) : Int))) (by omega) (by omega)]
  simp only [Out.bindR_ret, List.getD_cons_zero, List.getD_cons_succ, DC.bb_b, DC.ii_i, DC.ss_s, DC.ll_sl]
  by_cases c2 : ((left - ((v.text.length : Nat) : Int)) - ((DC.wt (.sl (v.items.map TValue.enc)) : Nat) : Int)) < ((DC.wt (.sl (v.names.map S1)) : Nat) : Int)
  · rw [szR_lt c2]
    simp only [show (-1 : Int) < 0 by omega, decide_true, if_true]
    try rw [szR_lt (by omega)]
  rw [szR_ge c2]
  have c2' : ¬ ((left - ((v.text.length : Nat) : Int)) - ((DC.wt (.sl (v.items.map TValue.enc)) : Nat) : Int)) - ((DC.wt (.sl (v.names.map S1)) : Nat) : Int) < 0 := by omega
  simp only [c2', decide_false, Bool.false_eq_true, if_false]
  first
  | done
  | rw [show szR left (v.text.length + DC.wt (.sl (v.items.map TValue.enc)) + DC.wt (.sl (v.names.map S1))) = (((left - ((v.text.length : Nat) : Int)) - ((DC.wt (.sl (v.items.map TValue.enc)) : Nat) : Int)) - ((DC.wt (.sl (v.names.map S1)) : Nat) : Int)) from (szR_ge (by omega)).trans (by omega)]
theorem szS_Value (vs : List TValue) (ok : (DC.sl (vs.map TValue.enc)).ok) (left : Int) (h0 : 0 ≤ left) (h1 : left ≤ 1048576) : r_laws_szValueS [.sl (vs.map TValue.enc), .i left] = .ret [.i (szR left (DC.wt (.sl (vs.map TValue.enc))))] := szS_Value' vs (fun v _ => sz_Value v) ok left h0 h1
theorem toS_Value' (vs : List TValue) (hs : ∀ v ∈ vs, wtL (TValue.enc v) ≤ 1048576 → r_laws_toValue [.i v.kind, .s v.text, .sl (v.items.map TValue.enc), .sl (v.names.map S1)] = .ret (TValue.enc v)) (hw : DC.wt (.sl (vs.map TValue.enc)) ≤ 1048576) : r_laws_toValueS [.sl (vs.map TValue.enc)] = .ret [.sl (vs.map TValue.enc)] := by
  rw [DC.wt, List.length_map] at hw
  have hl : vs.length ≤ 1048576 := by omega
  rw [eq_laws_toValueS]
  simp only [E_laws_toValueS, List.getD_cons_zero, List.getD_cons_succ, DC.bb_b, DC.ii_i, DC.ss_s, DC.ll_sl]
  rw [if_pos ⟨by omega, by rw [List.length_map]; exact lim_of hl, trivial, by omega, by omega⟩, Int.toNat_natCast, List.length_map, show (0 : Int) = ((0 : Nat) : Int) from rfl, toS_loop hl (fun i hi cur h1 h2 => ?_) (fun cur => ?_)]
  · rfl
  · have key := hs vs[i] (List.getElem_mem hi) (by have := wtV_mem (List.mem_map_of_mem (f := TValue.enc) (List.getElem_mem hi)); omega)
    have hc1 : (i : Int) < (vs.length : Int) := by omega
    simp only [E_laws_toValueSL1, List.getD_cons_zero, List.getD_cons_succ, DC.bb_b, DC.ii_i, DC.ss_s, DC.ll_sl, Int.toNat_natCast, List.length_map, map_getD hi, h1, h2, TValue.enc_eq] at key ⊢
    simp only [key, List.getD_cons_zero, List.getD_cons_succ, DC.bb_b, DC.ii_i, DC.ss_s, DC.ll_sl, Out.bindR_ret]
    simp [hi, hc1, wrap_succ hi (show vs.length ≤ 9223372036854775807 by omega), setRunD]
  · simp [E_laws_toValueSL1]
theorem to_Value (v : TValue) : wtL (TValue.enc v) ≤ 1048576 → r_laws_toValue [.i v.kind, .s v.text, .sl (v.items.map TValue.enc), .sl (v.names.map S1)] = .ret (TValue.enc v) := by
  induction v using TValue.ind with | h v ih =>
  intro hw
  rw [wsum_Value] at hw
  rw [eq_laws_toValue]
  simp only [E_laws_toValue, List.getD_cons_zero, List.getD_cons_succ, DC.bb_b, DC.ii_i, DC.ss_s, DC.ll_sl]
  rw [toS_Value' v.items (fun x hx => ih x hx) (by omega)]
  simp only [Out.bindR_ret, List.getD_cons_zero, List.getD_cons_succ, DC.bb_b, DC.ii_i, DC.ss_s, DC.ll_sl]
  rw [toS_String v.names (by have h := hw; simp only [DC.wt, List.length_map] at h; omega)]
  simp only [Out.bindR_ret, List.getD_cons_zero, List.getD_cons_succ, DC.bb_b, DC.ii_i, DC.ss_s, DC.ll_sl]
  rw [TValue.enc_eq]
theorem toS_Value (vs : List TValue) (hw : DC.wt (.sl (vs.map TValue.enc)) ≤ 1048576) : r_laws_toValueS [.sl (vs.map TValue.enc)] = .ret [.sl (vs.map TValue.enc)] := toS_Value' vs (fun v _ => to_Value v) hw
theorem eqS_Value' (vs : List TValue) (hs : ∀ v ∈ vs, wtL (TValue.enc v) ≤ 1048576 → r_laws_eqValue [.i v.kind, .s v.text, .sl (v.items.map TValue.enc), .sl (v.names.map S1), .i v.kind, .s v.text, .sl (v.items.map TValue.enc), .sl (v.names.map S1)] = .ret [.b true]) (hw : DC.wt (.sl (vs.map TValue.enc)) ≤ 1048576) : r_laws_eqValueS [.sl (vs.map TValue.enc), .sl (vs.map TValue.enc)] = .ret [.b true] := by
  rw [DC.wt, List.length_map] at hw
  have hl : vs.length ≤ 1048576 := by omega
  rw [eq_laws_eqValueS]
  simp only [E_laws_eqValueS, List.getD_cons_zero, List.getD_cons_succ, DC.bb_b, DC.ii_i, DC.ss_s, DC.ll_sl]
  refine eqS_all (fun i hi => ?_) ?_
  · rw [List.length_map] at hi
    have key := hs vs[i] (List.getElem_mem hi) (by have := wtV_mem (List.mem_map_of_mem (f := TValue.enc) (List.getElem_mem hi)); omega)
    have hc1 : (i : Int) < (vs.length : Int) := by omega
    simp only [E_laws_eqValueSL1, List.getD_cons_zero, List.getD_cons_succ, DC.bb_b, DC.ii_i, DC.ss_s, DC.ll_sl, Int.toNat_natCast, List.length_map, map_getD hi, TValue.enc_eq] at key ⊢
    simp only [key, List.getD_cons_zero, List.getD_cons_succ, DC.bb_b, DC.ii_i, DC.ss_s, DC.ll_sl, Out.bindR_ret]
    simp [hi, hc1, wrap_succ hi (show vs.length ≤ 9223372036854775807 by omega)]
  · simp [E_laws_eqValueSL1]
theorem eq_Value (v : TValue) : wtL (TValue.enc v) ≤ 1048576 → r_laws_eqValue [.i v.kind, .s v.text, .sl (v.items.map TValue.enc), .sl (v.names.map S1), .i v.kind, .s v.text, .sl (v.items.map TValue.enc), .sl (v.names.map S1)] = .ret [.b true] := by
  induction v using TValue.ind with | h v ih =>
  intro hw
  rw [wsum_Value] at hw
  rw [eq_laws_eqValue]
  simp only [E_laws_eqValue, List.getD_cons_zero, List.getD_cons_succ, DC.bb_b, DC.ii_i, DC.ss_s, DC.ll_sl, bne_self_eq_false, beq_self_eq_true, Bool.not_true, Bool.false_eq_true, if_false]
  rw [eqS_Value' v.items (fun x hx => ih x hx) (by omega)]
  simp only [Out.bindR_ret, List.getD_cons_zero, List.getD_cons_succ, DC.bb_b, DC.ii_i, DC.ss_s, DC.ll_sl, bne_self_eq_false, beq_self_eq_true, Bool.not_true, Bool.false_eq_true, if_false]
  rw [eqS_String v.names (by have h := hw; simp only [DC.wt, List.length_map] at h; omega)]
  simp only [Out.bindR_ret, List.getD_cons_zero, List.getD_cons_succ, DC.bb_b, DC.ii_i, DC.ss_s, DC.ll_sl, bne_self_eq_false, beq_self_eq_true, Bool.not_true, Bool.false_eq_true, if_false]
theorem eqS_Value (vs : List TValue) (hw : DC.wt (.sl (vs.map TValue.enc)) ≤ 1048576) : r_laws_eqValueS [.sl (vs.map TValue.enc), .sl (vs.map TValue.enc)] = .ret [.b true] := eqS_Value' vs (fun v _ => eq_Value v) hw
theorem wsum_Type (v : TType) : wtL (TType.enc v) = v.name.length + v.wraps.length := by
  simp only [TType.enc_eq, wtL, DC.wt]
  try omega
theorem sz_Type (v : TType) : okL (TType.enc v) → ∀ left : Int, 0 ≤ left → left ≤ 1048576 → r_laws_szType [.s v.name, .s v.wraps, .i left] = .ret [.i (szR left (wtL (TType.enc v)))] := by
  intro ok left h0 h1
  rw [TType.enc_eq] at ok
  simp only [okL] at ok
  rw [eq_laws_szType]
  simp only [E_laws_szType, List.getD_cons_zero, List.getD_cons_succ, DC.bb_b, DC.ii_i, DC.ss_s, DC.ll_sl]
  rw [wsum_Type]
  have b0 : v.name.length ≤ 9223372036854775807 := by simpa only [DC.ok] using ok.1
  have b1 : v.wraps.length ≤ 9223372036854775807 := by simpa only [DC.ok] using ok.2.1
  rw [show IntKind.i64.wrap (left - (v.name.length : Int)) = left - (v.name.length : Int) from wrap64 (by omega) (by omega)]
  by_cases c0 : left < ((v.name.length : Nat) : Int)
  · have c0' : left - ((v.name.length : Nat) : Int) < 0 := by omega
    simp only [c0', decide_true, if_true]
    try rw [szR_lt (by omega)]
  have c0' : ¬ left - ((v.name.length : Nat) : Int) < 0 := by omega
  simp only [c0', decide_false, Bool.false_eq_true, if_false]
  rw [show IntKind.i64.wrap ((left - ((v.name.length : Nat) : Int)) - (v.wraps.length : Int)) = (left - ((v.name.length : Nat) : Int)) - (v.wraps.length : Int) from wrap64 (by omega) (by omega)]
  by_cases c1 : (left - ((v.name.length : Nat) : Int)) < ((v.wraps.length : Nat) : Int)
  · have c1' : (left - ((v.name.length : Nat) : Int)) - ((v.wraps.length : Nat) : Int) < 0 := by omega
    simp only [c1', decide_true, if_true]
    try rw [szR_lt (by omega)]
  have c1' : ¬ (left - ((v.name.length : Nat) : Int)) - ((v.wraps.length : Nat) : Int) < 0 := by omega
  simp only [c1', decide_false, Bool.false_eq_true, if_false]
  first
  | done
  | rw [show szR left (v.name.length + v.wraps.length) = ((left - ((v.name.length : Nat) : Int)) - ((v.wraps.length : Nat) : Int)) from (szR_ge (by omega)).trans (by omega)]
theorem to_Type (v : TType) : wtL (TType.enc v) ≤ 1048576 → r_laws_toType [.s v.name, .s v.wraps] = .ret (TType.enc v) := by
  intro hw
  rw [wsum_Type] at hw
  rw [eq_laws_toType]
  simp only [E_laws_toType, List.getD_cons_zero, List.getD_cons_succ, DC.bb_b, DC.ii_i, DC.ss_s, DC.ll_sl]
  rw [TType.enc_eq]
theorem eq_Type (v : TType) : wtL (TType.enc v) ≤ 1048576 → r_laws_eqType [.s v.name, .s v.wraps, .s v.name, .s v.wraps] = .ret [.b true] := by
  intro hw
  rw [wsum_Type] at hw
  rw [eq_laws_eqType]
  simp only [E_laws_eqType, List.getD_cons_zero, List.getD_cons_succ, DC.bb_b, DC.ii_i, DC.ss_s, DC.ll_sl, bne_self_eq_false, beq_self_eq_true, Bool.not_true, Bool.false_eq_true, if_false]
theorem wsum_Arg (v : TArg) : wtL (TArg.enc v) = v.name.length + wtL (TValue.enc v.value) := by
  simp only [TArg.enc_eq, wtL, DC.wt, TValue.enc_eq]
  try omega
theorem sz_Arg (v : TArg) : okL (TArg.enc v) → ∀ left : Int, 0 ≤ left → left ≤ 1048576 → r_laws_szArg [.s v.name, .i v.value.kind, .s v.value.text, .sl (v.value.items.map TValue.enc), .sl (v.value.names.map S1), .i left] = .ret [.i (szR left (wtL (TArg.enc v)))] := by
  intro ok left h0 h1
  rw [TArg.enc_eq] at ok
  simp only [okL] at ok
  rw [eq_laws_szArg]
  simp only [E_laws_szArg, List.getD_cons_zero, List.getD_cons_succ, DC.bb_b, DC.ii_i, DC.ss_s, DC.ll_sl]
  rw [wsum_Arg]
  have b0 : v.name.length ≤ 9223372036854775807 := by simpa only [DC.ok] using ok.1
  rw [show IntKind.i64.wrap (left - (v.name.length : Int)) = left - (v.name.length : Int) from wrap64 (by omega) (by omega)]
  by_cases c0 : left < ((v.name.length : Nat) : Int)
  · have c0' : left - ((v.name.length : Nat) : Int) < 0 := by omega
    simp only [c0', decide_true, if_true]
    try rw [szR_lt (by omega)]
  have c0' : ¬ left - ((v.name.length : Nat) : Int) < 0 := by omega
  simp only [c0', decide_false, Bool.false_eq_true, if_false]
  rw [sz_Value v.value (by rw [TValue.enc_eq]; simp only [okL]; exact ⟨ok.2.1, ok.2.2.1, ok.2.2.2.1, ok.2.2.2.2.1, trivial⟩) ((left - ((v.name.length : Nat) : Int))) (by omega) (by omega)]
  simp only [Out.bindR_ret, List.getD_cons_zero, List.getD_cons_succ, DC.bb_b, DC.ii_i, DC.ss_s, DC.ll_sl]
  by_cases c1 : (left - ((v.name.length : Nat) : Int)) < ((wtL (TValue.enc v.value) : Nat) : Int)
  · rw [szR_lt c1]
    simp only [show (-1 : Int) < 0 by omega, decide_true, if_true]
    try rw [szR_lt (by omega)]
  rw [szR_ge c1]
  have c1' : ¬ (left - ((v.name.length : Nat) : Int)) - ((wtL (TValue.enc v.value) : Nat) : Int) < 0 := by omega
  simp only [c1', decide_false, Bool.false_eq_true, if_false]
  first
  | done
  | rw [show szR left (v.name.length + wtL (TValue.enc v.value)) = ((left - ((v.name.length : Nat) : Int)) - ((wtL (TValue.enc v.value) : Nat) : Int)) from (szR_ge (by omega)).trans (by omega)]
theorem szS_Arg' (vs : List TArg) (hs : ∀ v ∈ vs, okL (TArg.enc v) → ∀ left : Int, 0 ≤ left → left ≤ 1048576 → r_laws_szArg [.s v.name, .i v.value.kind, .s v.value.text, .sl (v.value.items.map TValue.enc), .sl (v.value.names.map S1), .i left] = .ret [.i (szR left (wtL (TArg.enc v)))]) (ok : (DC.sl (vs.map TArg.enc)).ok) (left : Int) (h0 : 0 ≤ left) (h1 : left ≤ 1048576) : r_laws_szArgS [.sl (vs.map TArg.enc), .i left] = .ret [.i (szR left (DC.wt (.sl (vs.map TArg.enc))))] := by
  rw [DC.ok, List.length_map] at ok
  obtain ⟨hl, ok⟩ := ok
  rw [eq_laws_szArgS]
  simp only [E_laws_szArgS, List.getD_cons_zero, List.getD_cons_succ, DC.bb_b, DC.ii_i, DC.ss_s, DC.ll_sl]
  refine szS_all hl (fun i hi left h0 h1 => ?_) (fun left => ?_) h0 h1
  · have key := hs vs[i] (List.getElem_mem hi) (okV_mem ok _ (List.mem_map_of_mem (List.getElem_mem hi))) left h0 h1
    generalize wtL (TArg.enc vs[i]) = w at key ⊢
    have hc1 : (i : Int) < (vs.length : Int) := by omega
    simp only [E_laws_szArgSL1, List.getD_cons_zero, List.getD_cons_succ, DC.bb_b, DC.ii_i, DC.ss_s, DC.ll_sl, Int.toNat_natCast, List.length_map, map_getD hi, TArg.enc_eq, key, Out.bindR_ret]
    by_cases hc : left < (w : Int)
    · simp [hi, hc1, hc, szR_lt hc]
    · simp [hi, hc1, hc, szR_ge hc, show ¬ left - (w : Int) < 0 by omega, wrap_succ hi hl]
  · simp [E_laws_szArgSL1]
theorem szS_Arg (vs : List TArg) (ok : (DC.sl (vs.map TArg.enc)).ok) (left : Int) (h0 : 0 ≤ left) (h1 : left ≤ 1048576) : r_laws_szArgS [.sl (vs.map TArg.enc), .i left] = .ret [.i (szR left (DC.wt (.sl (vs.map TArg.enc))))] := szS_Arg' vs (fun v _ => sz_Arg v) ok left h0 h1
theorem to_Arg (v : TArg) : wtL (TArg.enc v) ≤ 1048576 → r_laws_toArg [.s v.name, .i v.value.kind, .s v.value.text, .sl (v.value.items.map TValue.enc), .sl (v.value.names.map S1)] = .ret (TArg.enc v) := by
  intro hw
  rw [wsum_Arg] at hw
  rw [eq_laws_toArg]
  simp only [E_laws_toArg, List.getD_cons_zero, List.getD_cons_succ, DC.bb_b, DC.ii_i, DC.ss_s, DC.ll_sl]
  rw [to_Value v.value (by omega)]
  simp only [Out.bindR_ret, TValue.enc_eq, List.getD_cons_zero, List.getD_cons_succ, DC.bb_b, DC.ii_i, DC.ss_s, DC.ll_sl]
  rw [TArg.enc_eq]
theorem toS_Arg' (vs : List TArg) (hs : ∀ v ∈ vs, wtL (TArg.enc v) ≤ 1048576 → r_laws_toArg [.s v.name, .i v.value.kind, .s v.value.text, .sl (v.value.items.map TValue.enc), .sl (v.value.names.map S1)] = .ret (TArg.enc v)) (hw : DC.wt (.sl (vs.map TArg.enc)) ≤ 1048576) : r_laws_toArgS [.sl (vs.map TArg.enc)] = .ret [.sl (vs.map TArg.enc)] := by
  rw [DC.wt, List.length_map] at hw
  have hl : vs.length ≤ 1048576 := by omega
  rw [eq_laws_toArgS]
  simp only [E_laws_toArgS, List.getD_cons_zero, List.getD_cons_succ, DC.bb_b, DC.ii_i, DC.ss_s, DC.ll_sl]
  rw [if_pos ⟨by omega, by rw [List.length_map]; exact lim_of hl, trivial, by omega, by omega⟩, Int.toNat_natCast, List.length_map, show (0 : Int) = ((0 : Nat) : Int) from rfl, toS_loop hl (fun i hi cur h1 h2 => ?_) (fun cur => ?_)]
  · rfl
  · have key := hs vs[i] (List.getElem_mem hi) (by have := wtV_mem (List.mem_map_of_mem (f := TArg.enc) (List.getElem_mem hi)); omega)
    have hc1 : (i : Int) < (vs.length : Int) := by omega
    simp only [E_laws_toArgSL1, List.getD_cons_zero, List.getD_cons_succ, DC.bb_b, DC.ii_i, DC.ss_s, DC.ll_sl, Int.toNat_natCast, List.length_map, map_getD hi, h1, h2, TArg.enc_eq] at key ⊢
    simp only [key, List.getD_cons_zero, List.getD_cons_succ, DC.bb_b, DC.ii_i, DC.ss_s, DC.ll_sl, Out.bindR_ret]
    simp [hi, hc1, wrap_succ hi (show vs.length ≤ 9223372036854775807 by omega), setRunD]
  · simp [E_laws_toArgSL1]
theorem toS_Arg (vs : List TArg) (hw : DC.wt (.sl (vs.map TArg.enc)) ≤ 1048576) : r_laws_toArgS [.sl (vs.map TArg.enc)] = .ret [.sl (vs.map TArg.enc)] := toS_Arg' vs (fun v _ => to_Arg v) hw
theorem eq_Arg (v : TArg) : wtL (TArg.enc v) ≤ 1048576 → r_laws_eqArg [.s v.name, .i v.value.kind, .s v.value.text, .sl (v.value.items.map TValue.enc), .sl (v.value.names.map S1), .s v.name, .i v.value.kind, .s v.value.text, .sl (v.value.items.map TValue.enc), .sl (v.value.names.map S1)] = .ret [.b true] := by
  intro hw
  rw [wsum_Arg] at hw
  rw [eq_laws_eqArg]
  simp only [E_laws_eqArg, List.getD_cons_zero, List.getD_cons_succ, DC.bb_b, DC.ii_i, DC.ss_s, DC.ll_sl, bne_self_eq_false, beq_self_eq_true, Bool.not_true, Bool.false_eq_true, if_false]
  rw [eq_Value v.value (by omega)]
  simp only [Out.bindR_ret, List.getD_cons_zero, List.getD_cons_succ, DC.bb_b, DC.ii_i, DC.ss_s, DC.ll_sl, bne_self_eq_false, beq_self_eq_true, Bool.not_true, Bool.false_eq_true, if_false]
theorem eqS_Arg' (vs : List TArg) (hs : ∀ v ∈ vs, wtL (TArg.enc v) ≤ 1048576 → r_laws_eqArg [.s v.name, .i v.value.kind, .s v.value.text, .sl (v.value.items.map TValue.enc), .sl (v.value.names.map S1), .s v.name, .i v.value.kind, .s v.value.text, .sl (v.value.items.map TValue.enc), .sl (v.value.names.map S1)] = .ret [.b true]) (hw : DC.wt (.sl (vs.map TArg.enc)) ≤ 1048576) : r_laws_eqArgS [.sl (vs.map TArg.enc), .sl (vs.map TArg.enc)] = .ret [.b true] := by
  rw [DC.wt, List.length_map] at hw
  have hl : vs.length ≤ 1048576 := by omega
  rw [eq_laws_eqArgS]
  simp only [E_laws_eqArgS, List.getD_cons_zero, List.getD_cons_succ, DC.bb_b, DC.ii_i, DC.ss_s, DC.ll_sl]
  refine eqS_all (fun i hi => ?_) ?_
  · rw [List.length_map] at hi
    have key := hs vs[i] (List.getElem_mem hi) (by have := wtV_mem (List.mem_map_of_mem (f := TArg.enc) (List.getElem_mem hi)); omega)
    have hc1 : (i : Int) < (vs.length : Int) := by omega
    simp only [E_laws_eqArgSL1, List.getD_cons_zero, List.getD_cons_succ, DC.bb_b, DC.ii_i, DC.ss_s, DC.ll_sl, Int.toNat_natCast, List.length_map, map_getD hi, TArg.enc_eq] at key ⊢
    simp only [key, List.getD_cons_zero, List.getD_cons_succ, DC.bb_b, DC.ii_i, DC.ss_s, DC.ll_sl, Out.bindR_ret]
    simp [hi, hc1, wrap_succ hi (show vs.length ≤ 9223372036854775807 by omega)]
  · simp [E_laws_eqArgSL1]
theorem eqS_Arg (vs : List TArg) (hw : DC.wt (.sl (vs.map TArg.enc)) ≤ 1048576) : r_laws_eqArgS [.sl (vs.map TArg.enc), .sl (vs.map TArg.enc)] = .ret [.b true] := eqS_Arg' vs (fun v _ => eq_Arg v) hw
theorem wsum_Dir (v : TDir) : wtL (TDir.enc v) = v.name.length + DC.wt (.sl (v.args.map TArg.enc)) := by
  simp only [TDir.enc_eq, wtL, DC.wt]
  try omega
theorem sz_Dir (v : TDir) : okL (TDir.enc v) → ∀ left : Int, 0 ≤ left → left ≤ 1048576 → r_laws_szDir [.s v.name, .sl (v.args.map TArg.enc), .i left] = .ret [.i (szR left (wtL (TDir.enc v)))] := by
  intro ok left h0 h1
  rw [TDir.enc_eq] at ok
  simp only [okL] at ok
  rw [eq_laws_szDir]
  simp only [E_laws_szDir, List.getD_cons_zero, List.getD_cons_succ, DC.bb_b, DC.ii_i, DC.ss_s, DC.ll_sl]
  rw [wsum_Dir]
  have b0 : v.name.length ≤ 9223372036854775807 := by simpa only [DC.ok] using ok.1
  rw [show IntKind.i64.wrap (left - (v.name.length : Int)) = left - (v.name.length : Int) from wrap64 (by omega) (by omega)]
  by_cases c0 : left < ((v.name.length : Nat) : Int)
  · have c0' : left - ((v.name.length : Nat) : Int) < 0 := by omega
    simp only [c0', decide_true, if_true]
    try rw [szR_lt (by omega)]
  have c0' : ¬ left - ((v.name.length : Nat) : Int) < 0 := by omega
  simp only [c0', decide_false, Bool.false_eq_true, if_false]
  rw [szS_Arg v.args ok.2.1 ((left - ((v.name.length : Nat) : Int))) (by omega) (by omega)]
  simp only [Out.bindR_ret, List.getD_cons_zero, List.getD_cons_succ, DC.bb_b, DC.ii_i, DC.ss_s, DC.ll_sl]
  by_cases c1 : (left - ((v.name.length : Nat) : Int)) < ((DC.wt (.sl (v.args.map TArg.enc)) : Nat) : Int)
  · rw [szR_lt c1]
    simp only [show (-1 : Int) < 0 by omega, decide_true, if_true]
    try rw [szR_lt (by omega)]
  rw [szR_ge c1]
  have c1' : ¬ (left - ((v.name.length : Nat) : Int)) - ((DC.wt (.sl (v.args.map TArg.enc)) : Nat) : Int) < 0 := by omega
  simp only [c1', decide_false, Bool.false_eq_true, if_false]
  first
  | done
  | rw [show szR left (v.name.length + DC.wt (.sl (v.args.map TArg.enc))) = ((left - ((v.name.length : Nat) : Int)) - ((DC.wt (.sl (v.args.map TArg.enc)) : Nat) : Int)) from (szR_ge (by omega)).trans (by omega)]
theorem szS_Dir' (vs : List TDir) (hs : ∀ v ∈ vs, okL (TDir.enc v) → ∀ left : Int, 0 ≤ left → left ≤ 1048576 → r_laws_szDir [.s v.name, .sl (v.args.map TArg.enc), .i left] = .ret [.i (szR left (wtL (TDir.enc v)))]) (ok : (DC.sl (vs.map TDir.enc)).ok) (left : Int) (h0 : 0 ≤ left) (h1 : left ≤ 1048576) : r_laws_szDirS [.sl (vs.map TDir.enc), .i left] = .ret [.i (szR left (DC.wt (.sl (vs.map TDir.enc))))] := by
  rw [DC.ok, List.length_map] at ok
  obtain ⟨hl, ok⟩ := ok
  rw [eq_laws_szDirS]
  simp only [E_laws_szDirS, List.getD_cons_zero, List.getD_cons_succ, DC.bb_b, DC.ii_i, DC.ss_s, DC.ll_sl]
  refine szS_all hl (fun i hi left h0 h1 => ?_) (fun left => ?_) h0 h1
  · have key := hs vs[i] (List.getElem_mem hi) (okV_mem ok _ (List.mem_map_of_mem (List.getElem_mem hi))) left h0 h1
    generalize wtL (TDir.enc vs[i]) = w at key ⊢
    have hc1 : (i : Int) < (vs.length : Int) := by omega
    simp only [E_laws_szDirSL1, List.getD_cons_zero, List.getD_cons_succ, DC.bb_b, DC.ii_i, DC.ss_s, DC.ll_sl, Int.toNat_natCast, List.length_map, map_getD hi, TDir.enc_eq, key, Out.bindR_ret]
    by_cases hc : left < (w : Int)
    · simp [hi, hc1, hc, szR_lt hc]
    · simp [hi, hc1, hc, szR_ge hc, show ¬ left - (w : Int) < 0 by omega, wrap_succ hi hl]
  · simp [E_laws_szDirSL1]
theorem szS_Dir (vs : List TDir) (ok : (DC.sl (vs.map TDir.enc)).ok) (left : Int) (h0 : 0 ≤ left) (h1 : left ≤ 1048576) : r_laws_szDirS [.sl (vs.map TDir.enc), .i left] = .ret [.i (szR left (DC.wt (.sl (vs.map TDir.enc))))] := szS_Dir' vs (fun v _ => sz_Dir v) ok left h0 h1
theorem to_Dir (v : TDir) : wtL (TDir.enc v) ≤ 1048576 → r_laws_toDir [.s v.name, .sl (v.args.map TArg.enc)] = .ret (TDir.enc v) := by
  intro hw
  rw [wsum_Dir] at hw
  rw [eq_laws_toDir]
  simp only [E_laws_toDir, List.getD_cons_zero, List.getD_cons_succ, DC.bb_b, DC.ii_i, DC.ss_s, DC.ll_sl]
  rw [toS_Arg v.args (by omega)]
  simp only [Out.bindR_ret, List.getD_cons_zero, List.getD_cons_succ, DC.bb_b, DC.ii_i, DC.ss_s, DC.ll_sl]
  rw [TDir.enc_eq]
theorem toS_Dir' (vs : List TDir) (hs : ∀ v ∈ vs, wtL (TDir.enc v) ≤ 1048576 → r_laws_toDir [.s v.name, .sl (v.args.map TArg.enc)] = .ret (TDir.enc v)) (hw : DC.wt (.sl (vs.map TDir.enc)) ≤ 1048576) : r_laws_toDirS [.sl (vs.map TDir.enc)] = .ret [.sl (vs.map TDir.enc)] := by
  rw [DC.wt, List.length_map] at hw
  have hl : vs.length ≤ 1048576 := by omega
  rw [eq_laws_toDirS]
  simp only [E_laws_toDirS, List.getD_cons_zero, List.getD_cons_succ, DC.bb_b, DC.ii_i, DC.ss_s, DC.ll_sl]
  rw [if_pos ⟨by omega, by rw [List.length_map]; exact lim_of hl, trivial, by omega, by omega⟩, Int.toNat_natCast, List.length_map, show (0 : Int) = ((0 : Nat) : Int) from rfl, toS_loop hl (fun i hi cur h1 h2 => ?_) (fun cur => ?_)]
  · rfl
  · have key := hs vs[i] (List.getElem_mem hi) (by have := wtV_mem (List.mem_map_of_mem (f := TDir.enc) (List.getElem_mem hi)); omega)
    have hc1 : (i : Int) < (vs.length : Int) := by omega
    simp only [E_laws_toDirSL1, List.getD_cons_zero, List.getD_cons_succ, DC.bb_b, DC.ii_i, DC.ss_s, DC.ll_sl, Int.toNat_natCast, List.length_map, map_getD hi, h1, h2, TDir.enc_eq] at key ⊢
    simp only [key, List.getD_cons_zero, List.getD_cons_succ, DC.bb_b, DC.ii_i, DC.ss_s, DC.ll_sl, Out.bindR_ret]
    simp [hi, hc1, wrap_succ hi (show vs.length ≤ 9223372036854775807 by omega), setRunD]
  · simp [E_laws_toDirSL1]
theorem toS_Dir (vs : List TDir) (hw : DC.wt (.sl (vs.map TDir.enc)) ≤ 1048576) : r_laws_toDirS [.sl (vs.map TDir.enc)] = .ret [.sl (vs.map TDir.enc)] := toS_Dir' vs (fun v _ => to_Dir v) hw
theorem eq_Dir (v : TDir) : wtL (TDir.enc v) ≤ 1048576 → r_laws_eqDir [.s v.name, .sl (v.args.map TArg.enc), .s v.name, .sl (v.args.map TArg.enc)] = .ret [.b true] := by
  intro hw
  rw [wsum_Dir] at hw
  rw [eq_laws_eqDir]
  simp only [E_laws_eqDir, List.getD_cons_zero, List.getD_cons_succ, DC.bb_b, DC.ii_i, DC.ss_s, DC.ll_sl, bne_self_eq_false, beq_self_eq_true, Bool.not_true, Bool.false_eq_true, if_false]
  rw [eqS_Arg v.args (by omega)]
  simp only [Out.bindR_ret, List.getD_cons_zero, List.getD_cons_succ, DC.bb_b, DC.ii_i, DC.ss_s, DC.ll_sl, bne_self_eq_false, beq_self_eq_true, Bool.not_true, Bool.false_eq_true, if_false]
theorem eqS_Dir' (vs : List TDir) (hs : ∀ v ∈ vs, wtL (TDir.enc v) ≤ 1048576 → r_laws_eqDir [.s v.name, .sl (v.args.map TArg.enc), .s v.name, .sl (v.args.map TArg.enc)] = .ret [.b true]) (hw : DC.wt (.sl (vs.map TDir.enc)) ≤ 1048576) : r_laws_eqDirS [.sl (vs.map TDir.enc), .sl (vs.map TDir.enc)] = .ret [.b true] := by
  rw [DC.wt, List.length_map] at hw
  have hl : vs.length ≤ 1048576 := by omega
  rw [eq_laws_eqDirS]
  simp only [E_laws_eqDirS, List.getD_cons_zero, List.getD_cons_succ, DC.bb_b, DC.ii_i, DC.ss_s, DC.ll_sl]
  refine eqS_all (fun i hi => ?_) ?_
  · rw [List.length_map] at hi
    have key := hs vs[i] (List.getElem_mem hi) (by have := wtV_mem (List.mem_map_of_mem (f := TDir.enc) (List.getElem_mem hi)); omega)
    have hc1 : (i : Int) < (vs.length : Int) := by omega
    simp only [E_laws_eqDirSL1, List.getD_cons_zero, List.getD_cons_succ, DC.bb_b, DC.ii_i, DC.ss_s, DC.ll_sl, Int.toNat_natCast, List.length_map, map_getD hi, TDir.enc_eq] at key ⊢
    simp only [key, List.getD_cons_zero, List.getD_cons_succ, DC.bb_b, DC.ii_i, DC.ss_s, DC.ll_sl, Out.bindR_ret]
    simp [hi, hc1, wrap_succ hi (show vs.length ≤ 9223372036854775807 by omega)]
  · simp [E_laws_eqDirSL1]
theorem eqS_Dir (vs : List TDir) (hw : DC.wt (.sl (vs.map TDir.enc)) ≤ 1048576) : r_laws_eqDirS [.sl (vs.map TDir.enc), .sl (vs.map TDir.enc)] = .ret [.b true] := eqS_Dir' vs (fun v _ => eq_Dir v) hw
theorem wsum_Sel (v : TSel) : wtL (TSel.enc v) = v.alias.length + v.name.length + v.on'.length + DC.wt (.sl (v.args.map TArg.enc)) + DC.wt (.sl (v.dirs.map TDir.enc)) + DC.wt (.sl (v.sels.map TSel.enc)) := by
  simp only [TSel.enc_eq, wtL, DC.wt]
  try omega
theorem szS_Sel' (vs : List TSel) (hs : ∀ v ∈ vs, okL (TSel.enc v) → ∀ left : Int, 0 ≤ left → left ≤ 1048576 → r_laws_szSel [.i v.kind, .s v.alias, .s v.name, .s v.on', .sl (v.args.map TArg.enc), .sl (v.dirs.map TDir.enc), .sl (v.sels.map TSel.enc), .i left] = .ret [.i (szR left (wtL (TSel.enc v)))]) (ok : (DC.sl (vs.map TSel.enc)).ok) (left : Int) (h0 : 0 ≤ left) (h1 : left ≤ 1048576) : r_laws_szSelS [.sl (vs.map TSel.enc), .i left] = .ret [.i (szR left (DC.wt (.sl (vs.map TSel.enc))))] := by
  rw [DC.ok, List.length_map] at ok
  obtain ⟨hl, ok⟩ := ok
  rw [eq_laws_szSelS]
  simp only [E_laws_szSelS, List.getD_cons_zero, List.getD_cons_succ, DC.bb_b, DC.ii_i, DC.ss_s, DC.ll_sl]
  refine szS_all hl (fun i hi left h0 h1 => ?_) (fun left => ?_) h0 h1
  · have key := hs vs[i] (List.getElem_mem hi) (okV_mem ok _ (List.mem_map_of_mem (List.getElem_mem hi))) left h0 h1
    generalize wtL (TSel.enc vs[i]) = w at key ⊢
    have hc1 : (i : Int) < (vs.length : Int) := by omega
    simp only [E_laws_szSelSL1, List.getD_cons_zero, List.getD_cons_succ, DC.bb_b, DC.ii_i, DC.ss_s, DC.ll_sl, Int.toNat_natCast, List.length_map, map_getD hi, TSel.enc_eq, key, Out.bindR_ret]
    by_cases hc : left < (w : Int)
    · simp [hi, hc1, hc, szR_lt hc]
    · simp [hi, hc1, hc, szR_ge hc, show ¬ left - (w : Int) < 0 by omega, wrap_succ hi hl]
  · simp [E_laws_szSelSL1]
theorem sz_Sel (v : TSel) : okL (TSel.enc v) → ∀ left : Int, 0 ≤ left → left ≤ 1048576 → r_laws_szSel [.i v.kind, .s v.alias, .s v.name, .s v.on', .sl (v.args.map TArg.enc), .sl (v.dirs.map TDir.enc), .sl (v.sels.map TSel.enc), .i left] = .ret [.i (szR left (wtL (TSel.enc v)))] := by
  induction v using TSel.ind with | h v ih =>
  intro ok left h0 h1
  rw [TSel.enc_eq] at ok
  simp only [okL] at ok
  rw [eq_laws_szSel]
  simp only [E_laws_szSel, List.getD_cons_zero, List.getD_cons_succ, DC.bb_b, DC.ii_i, DC.ss_s, DC.ll_sl]
  rw [wsum_Sel]
  have b0 : v.alias.length ≤ 9223372036854775807 := by simpa only [DC.ok] using ok.2.1
  have b1 : v.name.length ≤ 9223372036854775807 := by simpa only [DC.ok] using ok.2.2.1
  have b2 : v.on'.length ≤ 9223372036854775807 := by simpa only [DC.ok] using ok.2.2.2.1
  rw [show IntKind.i64.wrap (left - (v.alias.length : Int)) = left - (v.alias.length : Int) from wrap64 (by omega) (by omega)]
  by_cases c0 : left < ((v.alias.length : Nat) : Int)
  · have c0' : left - ((v.alias.length : Nat) : Int) < 0 := by omega
    simp only [c0', decide_true, if_true]
    try rw [szR_lt (by omega)]
  have c0' : ¬ left - ((v.alias.length : Nat) : Int) < 0 := by omega
  simp only [c0', decide_false, Bool.false_eq_true, if_false]
  rw [show IntKind.i64.wrap ((left - ((v.alias.length : Nat) : Int)) - (v.name.length : Int)) = (left - ((v.alias.length : Nat) : Int)) - (v.name.length : Int) from wrap64 (by omega) (by omega)]
  by_cases c1 : (left - ((v.alias.length : Nat) : Int)) < ((v.name.length : Nat) : Int)
  · have c1' : (left - ((v.alias.length : Nat) : Int)) - ((v.name.length : Nat) : Int) < 0 := by omega
    simp only [c1', decide_true, if_true]
    try rw [szR_lt (by omega)]
  have c1' : ¬ (left - ((v.alias.length : Nat) : Int)) - ((v.name.length : Nat) : Int) < 0 := by omega
  simp only [c1', decide_false, Bool.false_eq_true, if_false]
  rw [show IntKind.i64.wrap (((left - ((v.alias.length : Nat) : Int)) - ((v.name.length : Nat) : Int)) - (v.on'.length : Int)) = ((left - ((v.alias.length : Nat) : Int)) - ((v.name.length : Nat) : Int)) - (v.on'.length : Int) from wrap64 (by omega) (by omega)]
  by_cases c2 : ((left - ((v.alias.length : Nat) : Int)) - ((v.name.length : Nat) : Int)) < ((v.on'.length : Nat) : Int)
  · have c2' : ((left - ((v.alias.length : Nat) : Int)) - ((v.name.length : Nat) : Int)) - ((v.on'.length : Nat) : Int) < 0 := by omega
    simp only [c2', decide_true, if_true]
    try rw [szR_lt (by omega)]
  have c2' : ¬ ((left - ((v.alias.length : Nat) : Int)) - ((v.name.length : Nat) : Int)) - ((v.on'.length : Nat) : Int) < 0 := by omega
  simp only [c2', decide_false, Bool.false_eq_true, if_false]
  rw [szS_Arg v.args ok.2.2.2.2.1 ((((left - ((v.alias.length : Nat) : Int)) - ((v.name.length : Nat) : Int)) - ((v.on'.length : Nat) : Int))) (by omega) (by omega)]
  simp only [Out.bindR_ret, List.getD_cons_zero, List.getD_cons_succ, DC.bb_b, DC.ii_i, DC.ss_s, DC.ll_sl]
  by_cases c3 : (((left - ((v.alias.length : Nat) : Int)) - ((v.name.length : Nat) : Int)) - ((v.on'.length : Nat) : Int)) < ((DC.wt (.sl (v.args.map TArg.enc)) : Nat) : Int)
  · rw [szR_lt c3]
    simp only [show (-1 : Int) < 0 by omega, decide_true, if_true]
    try rw [szR_lt (by omega)]
  rw [szR_ge c3]
  have c3' : ¬ (((left - ((v.alias.length : Nat) : Int)) - ((v.name.length : Nat) : Int)) - ((v.on'.length : Nat) : Int)) - ((DC.wt (.sl (v.args.map TArg.enc)) : Nat) : Int) < 0 := by omega
  simp only [c3', decide_false, Bool.false_eq_true, if_false]
  rw [szS_Dir v.dirs ok.2.2.2.2.2.1 (((((left - ((v.alias.length : Nat) : Int)) - ((v.name.length : Nat) : Int)) - ((v.on'.length : Nat) : Int)) - ((DC.wt (.sl (v.args.map TArg.enc)) : Nat) : Int))) (by omega) (by omega)]
  simp only [Out.bindR_ret, List.getD_cons_zero, List.getD_cons_succ, DC.bb_b, DC.ii_i, DC.ss_s, DC.ll_sl]
  by_cases c4 : ((((left - ((v.alias.length : Nat) : Int)) - ((v.name.length : Nat) : Int)) - ((v.on'.length : Nat) : Int)) - ((DC.wt (.sl (v.args.map TArg.enc)) : Nat) : Int)) < ((DC.wt (.sl (v.dirs.map TDir.enc)) : Nat) : Int)
  · rw [szR_lt c4]
    simp only [show (-1 : Int) < 0 by omega, decide_true, if_true]
    try rw [szR_lt (by omega)]
  rw [szR_ge c4]
  have c4' : ¬ ((((left - ((v.alias.length : Nat) : Int)) - ((v.name.length : Nat) : Int)) - ((v.on'.length : Nat) : Int)) - ((DC.wt (.sl (v.args.map TArg.enc)) : Nat) : Int)) - ((DC.wt (.sl (v.dirs.map TDir.enc)) : Nat) : Int) < 0 := by omega
  simp only [c4', decide_false, Bool.false_eq_true, if_false]
  rw [szS_Sel' v.sels (fun x hx => ih x hx) ok.2.2.2.2.2.2.1 ((((((left - ((v.alias.length : Nat) : Int)) - ((v.name.length : Nat) : Int)) - ((v.on'.length : Nat) : Int)) - ((DC.wt (.sl (v.args.map TArg.enc)) : Nat) : Int)) - ((DC.wt (.sl (v.dirs.map TDir.enc)) : Nat) : Int))) (by omega) (by omega)]
  simp only [Out.bindR_ret, List.getD_cons_zero, List.getD_cons_succ, DC.bb_b, DC.ii_i, DC.ss_s, DC.ll_sl]
  by_cases c5 : (((((left - ((v.alias.length : Nat) : Int)) - ((v.name.length : Nat) : Int)) - ((v.on'.length : Nat) : Int)) - ((DC.wt (.sl (v.args.map TArg.enc)) : Nat) : Int)) - ((DC.wt (.sl (v.dirs.map TDir.enc)) : Nat) : Int)) < ((DC.wt (.sl (v.sels.map TSel.enc)) : Nat) : Int)
  · rw [szR_lt c5]
    simp only [show (-1 : Int) < 0 by omega, decide_true, if_true]
    try rw [szR_lt (by omega)]
  rw [szR_ge c5]
  have c5' : ¬ (((((left - ((v.alias.length : Nat) : Int)) - ((v.name.length : Nat) : Int)) - ((v.on'.length : Nat) : Int)) - ((DC.wt (.sl (v.args.map TArg.enc)) : Nat) : Int)) - ((DC.wt (.sl (v.dirs.map TDir.enc)) : Nat) : Int)) - ((DC.wt (.sl (v.sels.map TSel.enc)) : Nat) : Int) < 0 := by omega
  simp only [c5', decide_false, Bool.false_eq_true, if_false]
  first
  | done
  | rw [show szR left (v.alias.length + v.name.length + v.on'.length + DC.wt (.sl (v.args.map TArg.enc)) + DC.wt (.sl (v.dirs.map TDir.enc)) + DC.wt (.sl (v.sels.map TSel.enc))) = ((((((left - ((v.alias.length : Nat) : Int)) - ((v.name.length : Nat) : Int)) - ((v.on'.length : Nat) : Int)) - ((DC.wt (.sl (v.args.map TArg.enc)) : Nat) : Int)) - ((DC.wt (.sl (v.dirs.map TDir.enc)) : Nat) : Int)) - ((DC.wt (.sl (v.sels.map TSel.enc)) : Nat) : Int)) from (szR_ge (by omega)).trans (by omega)]
theorem szS_Sel (vs : List TSel) (ok : (DC.sl (vs.map TSel.enc)).ok) (left : Int) (h0 : 0 ≤ left) (h1 : left ≤ 1048576) : r_laws_szSelS [.sl (vs.map TSel.enc), .i left] = .ret [.i (szR left (DC.wt (.sl (vs.map TSel.enc))))] := szS_Sel' vs (fun v _ => sz_Sel v) ok left h0 h1
theorem toS_Sel' (vs : List TSel) (hs : ∀ v ∈ vs, wtL (TSel.enc v) ≤ 1048576 → r_laws_toSel [.i v.kind, .s v.alias, .s v.name, .s v.on', .sl (v.args.map TArg.enc), .sl (v.dirs.map TDir.enc), .sl (v.sels.map TSel.enc)] = .ret (TSel.enc v)) (hw : DC.wt (.sl (vs.map TSel.enc)) ≤ 1048576) : r_laws_toSelS [.sl (vs.map TSel.enc)] = .ret [.sl (vs.map TSel.enc)] := by
  rw [DC.wt, List.length_map] at hw
  have hl : vs.length ≤ 1048576 := by omega
  rw [eq_laws_toSelS]
  simp only [E_laws_toSelS, List.getD_cons_zero, List.getD_cons_succ, DC.bb_b, DC.ii_i, DC.ss_s, DC.ll_sl]
  rw [if_pos ⟨by omega, by rw [List.length_map]; exact lim_of hl, trivial, by omega, by omega⟩, Int.toNat_natCast, List.length_map, show (0 : Int) = ((0 : Nat) : Int) from rfl, toS_loop hl (fun i hi cur h1 h2 => ?_) (fun cur => ?_)]
  · rfl
  · have key := hs vs[i] (List.getElem_mem hi) (by have := wtV_mem (List.mem_map_of_mem (f := TSel.enc) (List.getElem_mem hi)); omega)
    have hc1 : (i : Int) < (vs.length : Int) := by omega
    simp only [E_laws_toSelSL1, List.getD_cons_zero, List.getD_cons_succ, DC.bb_b, DC.ii_i, DC.ss_s, DC.ll_sl, Int.toNat_natCast, List.length_map, map_getD hi, h1, h2, TSel.enc_eq] at key ⊢
    simp only [key, List.getD_cons_zero, List.getD_cons_succ, DC.bb_b, DC.ii_i, DC.ss_s, DC.ll_sl, Out.bindR_ret]
    simp [hi, hc1, wrap_succ hi (show vs.length ≤ 9223372036854775807 by omega), setRunD]
  · simp [E_laws_toSelSL1]
theorem to_Sel (v : TSel) : wtL (TSel.enc v) ≤ 1048576 → r_laws_toSel [.i v.kind, .s v.alias, .s v.name, .s v.on', .sl (v.args.map TArg.enc), .sl (v.dirs.map TDir.enc), .sl (v.sels.map TSel.enc)] = .ret (TSel.enc v) := by
  induction v using TSel.ind with | h v ih =>
  intro hw
  rw [wsum_Sel] at hw
  rw [eq_laws_toSel]
  simp only [E_laws_toSel, List.getD_cons_zero, List.getD_cons_succ, DC.bb_b, DC.ii_i, DC.ss_s, DC.ll_sl]
  rw [toS_Arg v.args (by omega)]
  simp only [Out.bindR_ret, List.getD_cons_zero, List.getD_cons_succ, DC.bb_b, DC.ii_i, DC.ss_s, DC.ll_sl]
  rw [toS_Dir v.dirs (by omega)]
  simp only [Out.bindR_ret, List.getD_cons_zero, List.getD_cons_succ, DC.bb_b, DC.ii_i, DC.ss_s, DC.ll_sl]
  rw [toS_Sel' v.sels (fun x hx => ih x hx) (by omega)]
  simp only [Out.bindR_ret, List.getD_cons_zero, List.getD_cons_succ, DC.bb_b, DC.ii_i, DC.ss_s, DC.ll_sl]
  rw [TSel.enc_eq]
theorem toS_Sel (vs : List TSel) (hw : DC.wt (.sl (vs.map TSel.enc)) ≤ 1048576) : r_laws_toSelS [.sl (vs.map TSel.enc)] = .ret [.sl (vs.map TSel.enc)] := toS_Sel' vs (fun v _ => to_Sel v) hw
theorem eqS_Sel' (vs : List TSel) (hs : ∀ v ∈ vs, wtL (TSel.enc v) ≤ 1048576 → r_laws_eqSel [.i v.kind, .s v.alias, .s v.name, .s v.on', .sl (v.args.map TArg.enc), .sl (v.dirs.map TDir.enc), .sl (v.sels.map TSel.enc), .i v.kind, .s v.alias, .s v.name, .s v.on', .sl (v.args.map TArg.enc), .sl (v.dirs.map TDir.enc), .sl (v.sels.map TSel.enc)] = .ret [.b true]) (hw : DC.wt (.sl (vs.map TSel.enc)) ≤ 1048576) : r_laws_eqSelS [.sl (vs.map TSel.enc), .sl (vs.map TSel.enc)] = .ret [.b true] := by
  rw [DC.wt, List.length_map] at hw
  have hl : vs.length ≤ 1048576 := by omega
  rw [eq_laws_eqSelS]
  simp only [E_laws_eqSelS, List.getD_cons_zero, List.getD_cons_succ, DC.bb_b, DC.ii_i, DC.ss_s, DC.ll_sl]
  refine eqS_all (fun i hi => ?_) ?_
  · rw [List.length_map] at hi
    have key := hs vs[i] (List.getElem_mem hi) (by have := wtV_mem (List.mem_map_of_mem (f := TSel.enc) (List.getElem_mem hi)); omega)
    have hc1 : (i : Int) < (vs.length : Int) := by omega
    simp only [E_laws_eqSelSL1, List.getD_cons_zero, List.getD_cons_succ, DC.bb_b, DC.ii_i, DC.ss_s, DC.ll_sl, Int.toNat_natCast, List.length_map, map_getD hi, TSel.enc_eq] at key ⊢
    simp only [key, List.getD_cons_zero, List.getD_cons_succ, DC.bb_b, DC.ii_i, DC.ss_s, DC.ll_sl, Out.bindR_ret]
    simp [hi, hc1, wrap_succ hi (show vs.length ≤ 9223372036854775807 by omega)]
  · simp [E_laws_eqSelSL1]
theorem eq_Sel (v : TSel) : wtL (TSel.enc v) ≤ 1048576 → r_laws_eqSel [.i v.kind, .s v.alias, .s v.name, .s v.on', .sl (v.args.map TArg.enc), .sl (v.dirs.map TDir.enc), .sl (v.sels.map TSel.enc), .i v.kind, .s v.alias, .s v.name, .s v.on', .sl (v.args.map TArg.enc), .sl (v.dirs.map TDir.enc), .sl (v.sels.map TSel.enc)] = .ret [.b true] := by
  induction v using TSel.ind with | h v ih =>
  intro hw
  rw [wsum_Sel] at hw
  rw [eq_laws_eqSel]
  simp only [E_laws_eqSel, List.getD_cons_zero, List.getD_cons_succ, DC.bb_b, DC.ii_i, DC.ss_s, DC.ll_sl, bne_self_eq_false, beq_self_eq_true, Bool.not_true, Bool.false_eq_true, if_false]
  rw [eqS_Arg v.args (by omega)]
  simp only [Out.bindR_ret, List.getD_cons_zero, List.getD_cons_succ, DC.bb_b, DC.ii_i, DC.ss_s, DC.ll_sl, bne_self_eq_false, beq_self_eq_true, Bool.not_true, Bool.false_eq_true, if_false]
  rw [eqS_Dir v.dirs (by omega)]
  simp only [Out.bindR_ret, List.getD_cons_zero, List.getD_cons_succ, DC.bb_b, DC.ii_i, DC.ss_s, DC.ll_sl, bne_self_eq_false, beq_self_eq_true, Bool.not_true, Bool.false_eq_true, if_false]
  rw [eqS_Sel' v.sels (fun x hx => ih x hx) (by omega)]
  simp only [Out.bindR_ret, List.getD_cons_zero, List.getD_cons_succ, DC.bb_b, DC.ii_i, DC.ss_s, DC.ll_sl, bne_self_eq_false, beq_self_eq_true, Bool.not_true, Bool.false_eq_true, if_false]
theorem eqS_Sel (vs : List TSel) (hw : DC.wt (.sl (vs.map TSel.enc)) ≤ 1048576) : r_laws_eqSelS [.sl (vs.map TSel.enc), .sl (vs.map TSel.enc)] = .ret [.b true] := eqS_Sel' vs (fun v _ => eq_Sel v) hw
theorem wsum_VarDef (v : TVarDef) : wtL (TVarDef.enc v) = v.name.length + wtL (TType.enc v.type') + wtL (TValue.enc v.default') + DC.wt (.sl (v.dirs.map TDir.enc)) := by
  simp only [TVarDef.enc_eq, wtL, DC.wt, TType.enc_eq, TValue.enc_eq]
  try omega
theorem sz_VarDef (v : TVarDef) : okL (TVarDef.enc v) → ∀ left : Int, 0 ≤ left → left ≤ 1048576 → r_laws_szVarDef [.s v.name, .s v.type'.name, .s v.type'.wraps, .b v.has', .i v.default'.kind, .s v.default'.text, .sl (v.default'.items.map TValue.enc), .sl (v.default'.names.map S1), .sl (v.dirs.map TDir.enc), .i left] = .ret [.i (szR left (wtL (TVarDef.enc v)))] := by
  intro ok left h0 h1
  rw [TVarDef.enc_eq] at ok
  simp only [okL] at ok
  rw [eq_laws_szVarDef]
  simp only [E_laws_szVarDef, List.getD_cons_zero, List.getD_cons_succ, DC.bb_b, DC.ii_i, DC.ss_s, DC.ll_sl]
  rw [wsum_VarDef]
  have b0 : v.name.length ≤ 9223372036854775807 := by simpa only [DC.ok] using ok.1
  rw [show IntKind.i64.wrap (left - (v.name.length : Int)) = left - (v.name.length : Int) from wrap64 (by omega) (by omega)]
  by_cases c0 : left < ((v.name.length : Nat) : Int)
  · have c0' : left - ((v.name.length : Nat) : Int) < 0 := by omega
    simp only [c0', decide_true, if_true]
    try rw [szR_lt (by omega)]
  have c0' : ¬ left - ((v.name.length : Nat) : Int) < 0 := by omega
  simp only [c0', decide_false, Bool.false_eq_true, if_false]
  rw [sz_Type v.type' (by rw [TType.enc_eq]; simp only [okL]; exact ⟨ok.2.1, ok.2.2.1, trivial⟩) ((left - ((v.name.length : Nat) : Int))) (by omega) (by omega)]
  simp only [Out.bindR_ret, List.getD_cons_zero, List.getD_cons_succ, DC.bb_b, DC.ii_i, DC.ss_s, DC.ll_sl]
  by_cases c1 : (left - ((v.name.length : Nat) : Int)) < ((wtL (TType.enc v.type') : Nat) : Int)
  · rw [szR_lt c1]
    simp only [show (-1 : Int) < 0 by omega, decide_true, if_true]
    try rw [szR_lt (by omega)]
  rw [szR_ge c1]
  have c1' : ¬ (left - ((v.name.length : Nat) : Int)) - ((wtL (TType.enc v.type') : Nat) : Int) < 0 := by omega
  simp only [c1', decide_false, Bool.false_eq_true, if_false]
  rw [sz_Value v.default' (by rw [TValue.enc_eq]; simp only [okL]; exact ⟨ok.2.2.2.2.1, ok.2.2.2.2.2.1, ok.2.2.2.2.2.2.1, ok.2.2.2.2.2.2.2.1, trivial⟩) (((left - ((v.name.length : Nat) : Int)) - ((wtL (TType.enc v.type') : Nat) : Int))) (by omega) (by omega)]
  simp only [Out.bindR_ret, List.getD_cons_zero, List.getD_cons_succ, DC.bb_b, DC.ii_i, DC.ss_s, DC.ll_sl]
  by_cases c2 : ((left - ((v.name.length : Nat) : Int)) - ((wtL (TType.enc v.type') : Nat) : Int)) < ((wtL (TValue.enc v.default') : Nat) : Int)
  · rw [szR_lt c2]
    simp only [show (-1 : Int) < 0 by omega, decide_true, if_true]
    try rw [szR_lt (by omega)]
  rw [szR_ge c2]
  have c2' : ¬ ((left - ((v.name.length : Nat) : Int)) - ((wtL (TType.enc v.type') : Nat) : Int)) - ((wtL (TValue.enc v.default') : Nat) : Int) < 0 := by omega
  simp only [c2', decide_false, Bool.false_eq_true, if_false]
  rw [szS_Dir v.dirs ok.2.2.2.2.2.2.2.2.1 ((((left - ((v.name.length : Nat) : Int)) - ((wtL (TType.enc v.type') : Nat) : Int)) - ((wtL (TValue.enc v.default') : Nat) : Int))) (by omega) (by omega)]
  simp only [Out.bindR_ret, List.getD_cons_zero, List.getD_cons_succ, DC.bb_b, DC.ii_i, DC.ss_s, DC.ll_sl]
  by_cases c3 : (((left - ((v.name.length : Nat) : Int)) - ((wtL (TType.enc v.type') : Nat) : Int)) - ((wtL (TValue.enc v.default') : Nat) : Int)) < ((DC.wt (.sl (v.dirs.map TDir.enc)) : Nat) : Int)
  · rw [szR_lt c3]
    simp only [show (-1 : Int) < 0 by omega, decide_true, if_true]
    try rw [szR_lt (by omega)]
  rw [szR_ge c3]
  have c3' : ¬ (((left - ((v.name.length : Nat) : Int)) - ((wtL (TType.enc v.type') : Nat) : Int)) - ((wtL (TValue.enc v.default') : Nat) : Int)) - ((DC.wt (.sl (v.dirs.map TDir.enc)) : Nat) : Int) < 0 := by omega
  simp only [c3', decide_false, Bool.false_eq_true, if_false]
  first
  | done
  | rw [show szR left (v.name.length + wtL (TType.enc v.type') + wtL (TValue.enc v.default') + DC.wt (.sl (v.dirs.map TDir.enc))) = ((((left - ((v.name.length : Nat) : Int)) - ((wtL (TType.enc v.type') : Nat) : Int)) - ((wtL (TValue.enc v.default') : Nat) : Int)) - ((DC.wt (.sl (v.dirs.map TDir.enc)) : Nat) : Int)) from (szR_ge (by omega)).trans (by omega)]
theorem szS_VarDef' (vs : List TVarDef) (hs : ∀ v ∈ vs, okL (TVarDef.enc v) → ∀ left : Int, 0 ≤ left → left ≤ 1048576 → r_laws_szVarDef [.s v.name, .s v.type'.name, .s v.type'.wraps, .b v.has', .i v.default'.kind, .s v.default'.text, .sl (v.default'.items.map TValue.enc), .sl (v.default'.names.map S1), .sl (v.dirs.map TDir.enc), .i left] = .ret [.i (szR left (wtL (TVarDef.enc v)))]) (ok : (DC.sl (vs.map TVarDef.enc)).ok) (left : Int) (h0 : 0 ≤ left) (h1 : left ≤ 1048576) : r_laws_szVarDefS [.sl (vs.map TVarDef.enc), .i left] = .ret [.i (szR left (DC.wt (.sl (vs.map TVarDef.enc))))] := by
  rw [DC.ok, List.length_map] at ok
  obtain ⟨hl, ok⟩ := ok
  rw [eq_laws_szVarDefS]
  simp only [E_laws_szVarDefS, List.getD_cons_zero, List.getD_cons_succ, DC.bb_b, DC.ii_i, DC.ss_s, DC.ll_sl]
  refine szS_all hl (fun i hi left h0 h1 => ?_) (fun left => ?_) h0 h1
  · have key := hs vs[i] (List.getElem_mem hi) (okV_mem ok _ (List.mem_map_of_mem (List.getElem_mem hi))) left h0 h1
    generalize wtL (TVarDef.enc vs[i]) = w at key ⊢
    have hc1 : (i : Int) < (vs.length : Int) := by omega
    simp only [E_laws_szVarDefSL1, List.getD_cons_zero, List.getD_cons_succ, DC.bb_b, DC.ii_i, DC.ss_s, DC.ll_sl, Int.toNat_natCast, List.length_map, map_getD hi, TVarDef.enc_eq, key, Out.bindR_ret]
    by_cases hc : left < (w : Int)
    · simp [hi, hc1, hc, szR_lt hc]
    · simp [hi, hc1, hc, szR_ge hc, show ¬ left - (w : Int) < 0 by omega, wrap_succ hi hl]
  · simp [E_laws_szVarDefSL1]
theorem szS_VarDef (vs : List TVarDef) (ok : (DC.sl (vs.map TVarDef.enc)).ok) (left : Int) (h0 : 0 ≤ left) (h1 : left ≤ 1048576) : r_laws_szVarDefS [.sl (vs.map TVarDef.enc), .i left] = .ret [.i (szR left (DC.wt (.sl (vs.map TVarDef.enc))))] := szS_VarDef' vs (fun v _ => sz_VarDef v) ok left h0 h1
theorem to_VarDef (v : TVarDef) : wtL (TVarDef.enc v) ≤ 1048576 → r_laws_toVarDef [.s v.name, .s v.type'.name, .s v.type'.wraps, .b v.has', .i v.default'.kind, .s v.default'.text, .sl (v.default'.items.map TValue.enc), .sl (v.default'.names.map S1), .sl (v.dirs.map TDir.enc)] = .ret (TVarDef.enc v) := by
  intro hw
  rw [wsum_VarDef] at hw
  rw [eq_laws_toVarDef]
  simp only [E_laws_toVarDef, List.getD_cons_zero, List.getD_cons_succ, DC.bb_b, DC.ii_i, DC.ss_s, DC.ll_sl]
  rw [to_Type v.type' (by omega)]
  simp only [Out.bindR_ret, TType.enc_eq, List.getD_cons_zero, List.getD_cons_succ, DC.bb_b, DC.ii_i, DC.ss_s, DC.ll_sl]
  rw [to_Value v.default' (by omega)]
  simp only [Out.bindR_ret, TValue.enc_eq, List.getD_cons_zero, List.getD_cons_succ, DC.bb_b, DC.ii_i, DC.ss_s, DC.ll_sl]
  rw [toS_Dir v.dirs (by omega)]
  simp only [Out.bindR_ret, List.getD_cons_zero, List.getD_cons_succ, DC.bb_b, DC.ii_i, DC.ss_s, DC.ll_sl]
  rw [TVarDef.enc_eq]
theorem toS_VarDef' (vs : List TVarDef) (hs : ∀ v ∈ vs, wtL (TVarDef.enc v) ≤ 1048576 → r_laws_toVarDef [.s v.name, .s v.type'.name, .s v.type'.wraps, .b v.has', .i v.default'.kind, .s v.default'.text, .sl (v.default'.items.map TValue.enc), .sl (v.default'.names.map S1), .sl (v.dirs.map TDir.enc)] = .ret (TVarDef.enc v)) (hw : DC.wt (.sl (vs.map TVarDef.enc)) ≤ 1048576) : r_laws_toVarDefS [.sl (vs.map TVarDef.enc)] = .ret [.sl (vs.map TVarDef.enc)] := by
  rw [DC.wt, List.length_map] at hw
  have hl : vs.length ≤ 1048576 := by omega
  rw [eq_laws_toVarDefS]
  simp only [E_laws_toVarDefS, List.getD_cons_zero, List.getD_cons_succ, DC.bb_b, DC.ii_i, DC.ss_s, DC.ll_sl]
  rw [if_pos ⟨by omega, by rw [List.length_map]; exact lim_of hl, trivial, by omega, by omega⟩, Int.toNat_natCast, List.length_map, show (0 : Int) = ((0 : Nat) : Int) from rfl, toS_loop hl (fun i hi cur h1 h2 => ?_) (fun cur => ?_)]
  · rfl
  · have key := hs vs[i] (List.getElem_mem hi) (by have := wtV_mem (List.mem_map_of_mem (f := TVarDef.enc) (List.getElem_mem hi)); omega)
    have hc1 : (i : Int) < (vs.length : Int) := by omega
    simp only [E_laws_toVarDefSL1, List.getD_cons_zero, List.getD_cons_succ, DC.bb_b, DC.ii_i, DC.ss_s, DC.ll_sl, Int.toNat_natCast, List.length_map, map_getD hi, h1, h2, TVarDef.enc_eq] at key ⊢
    simp only [key, List.getD_cons_zero, List.getD_cons_succ, DC.bb_b, DC.ii_i, DC.ss_s, DC.ll_sl, Out.bindR_ret]
    simp [hi, hc1, wrap_succ hi (show vs.length ≤ 9223372036854775807 by omega), setRunD]
  · simp [E_laws_toVarDefSL1]
theorem toS_VarDef (vs : List TVarDef) (hw : DC.wt (.sl (vs.map TVarDef.enc)) ≤ 1048576) : r_laws_toVarDefS [.sl (vs.map TVarDef.enc)] = .ret [.sl (vs.map TVarDef.enc)] := toS_VarDef' vs (fun v _ => to_VarDef v) hw
theorem eq_VarDef (v : TVarDef) : wtL (TVarDef.enc v) ≤ 1048576 → r_laws_eqVarDef [.s v.name, .s v.type'.name, .s v.type'.wraps, .b v.has', .i v.default'.kind, .s v.default'.text, .sl (v.default'.items.map TValue.enc), .sl (v.default'.names.map S1), .sl (v.dirs.map TDir.enc), .s v.name, .s v.type'.name, .s v.type'.wraps, .b v.has', .i v.default'.kind, .s v.default'.text, .sl (v.default'.items.map TValue.enc), .sl (v.default'.names.map S1), .sl (v.dirs.map TDir.enc)] = .ret [.b true] := by
  intro hw
  rw [wsum_VarDef] at hw
  rw [eq_laws_eqVarDef]
  simp only [E_laws_eqVarDef, List.getD_cons_zero, List.getD_cons_succ, DC.bb_b, DC.ii_i, DC.ss_s, DC.ll_sl, bne_self_eq_false, beq_self_eq_true, Bool.not_true, Bool.false_eq_true, if_false]
  rw [eq_Type v.type' (by omega)]
  simp only [Out.bindR_ret, List.getD_cons_zero, List.getD_cons_succ, DC.bb_b, DC.ii_i, DC.ss_s, DC.ll_sl, bne_self_eq_false, beq_self_eq_true, Bool.not_true, Bool.false_eq_true, if_false]
  rw [eq_Value v.default' (by omega)]
  simp only [Out.bindR_ret, List.getD_cons_zero, List.getD_cons_succ, DC.bb_b, DC.ii_i, DC.ss_s, DC.ll_sl, bne_self_eq_false, beq_self_eq_true, Bool.not_true, Bool.false_eq_true, if_false]
  rw [eqS_Dir v.dirs (by omega)]
  simp only [Out.bindR_ret, List.getD_cons_zero, List.getD_cons_succ, DC.bb_b, DC.ii_i, DC.ss_s, DC.ll_sl, bne_self_eq_false, beq_self_eq_true, Bool.not_true, Bool.false_eq_true, if_false]
theorem eqS_VarDef' (vs : List TVarDef) (hs : ∀ v ∈ vs, wtL (TVarDef.enc v) ≤ 1048576 → r_laws_eqVarDef [.s v.name, .s v.type'.name, .s v.type'.wraps, .b v.has', .i v.default'.kind, .s v.default'.text, .sl (v.default'.items.map TValue.enc), .sl (v.default'.names.map S1), .sl (v.dirs.map TDir.enc), .s v.name, .s v.type'.name, .s v.type'.wraps, .b v.has', .i v.default'.kind, .s v.default'.text, .sl (v.default'.items.map TValue.enc), .sl (v.default'.names.map S1), .sl (v.dirs.map TDir.enc)] = .ret [.b true]) (hw : DC.wt (.sl (vs.map TVarDef.enc)) ≤ 1048576) : r_laws_eqVarDefS [.sl (vs.map TVarDef.enc), .sl (vs.map TVarDef.enc)] = .ret [.b true] := by
  rw [DC.wt, List.length_map] at hw
  have hl : vs.length ≤ 1048576 := by omega
  rw [eq_laws_eqVarDefS]
  simp only [E_laws_eqVarDefS, List.getD_cons_zero, List.getD_cons_succ, DC.bb_b, DC.ii_i, DC.ss_s, DC.ll_sl]
  refine eqS_all (fun i hi => ?_) ?_
  · rw [List.length_map] at hi
    have key := hs vs[i] (List.getElem_mem hi) (by have := wtV_mem (List.mem_map_of_mem (f := TVarDef.enc) (List.getElem_mem hi)); omega)
    have hc1 : (i : Int) < (vs.length : Int) := by omega
    simp only [E_laws_eqVarDefSL1, List.getD_cons_zero, List.getD_cons_succ, DC.bb_b, DC.ii_i, DC.ss_s, DC.ll_sl, Int.toNat_natCast, List.length_map, map_getD hi, TVarDef.enc_eq] at key ⊢
    simp only [key, List.getD_cons_zero, List.getD_cons_succ, DC.bb_b, DC.ii_i, DC.ss_s, DC.ll_sl, Out.bindR_ret]
    simp [hi, hc1, wrap_succ hi (show vs.length ≤ 9223372036854775807 by omega)]
  · simp [E_laws_eqVarDefSL1]
theorem eqS_VarDef (vs : List TVarDef) (hw : DC.wt (.sl (vs.map TVarDef.enc)) ≤ 1048576) : r_laws_eqVarDefS [.sl (vs.map TVarDef.enc), .sl (vs.map TVarDef.enc)] = .ret [.b true] := eqS_VarDef' vs (fun v _ => eq_VarDef v) hw
theorem wsum_Op (v : TOp) : wtL (TOp.enc v) = v.name.length + DC.wt (.sl (v.vars.map TVarDef.enc)) + DC.wt (.sl (v.dirs.map TDir.enc)) + DC.wt (.sl (v.sels.map TSel.enc)) := by
  simp only [TOp.enc_eq, wtL, DC.wt]
  try omega
theorem sz_Op (v : TOp) : okL (TOp.enc v) → ∀ left : Int, 0 ≤ left → left ≤ 1048576 → r_laws_szOp [.i v.kind, .s v.name, .sl (v.vars.map TVarDef.enc), .sl (v.dirs.map TDir.enc), .sl (v.sels.map TSel.enc), .i left] = .ret [.i (szR left (wtL (TOp.enc v)))] := by
  intro ok left h0 h1
  rw [TOp.enc_eq] at ok
  simp only [okL] at ok
  rw [eq_laws_szOp]
  simp only [E_laws_szOp, List.getD_cons_zero, List.getD_cons_succ, DC.bb_b, DC.ii_i, DC.ss_s, DC.ll_sl]
  rw [wsum_Op]
  have b0 : v.name.length ≤ 9223372036854775807 := by simpa only [DC.ok] using ok.2.1
  rw [show IntKind.i64.wrap (left - (v.name.length : Int)) = left - (v.name.length : Int) from wrap64 (by omega) (by omega)]
  by_cases c0 : left < ((v.name.length : Nat) : Int)
  · have c0' : left - ((v.name.length : Nat) : Int) < 0 := by omega
    simp only [c0', decide_true, if_true]
    try rw [szR_lt (by omega)]
  have c0' : ¬ left - ((v.name.length : Nat) : Int) < 0 := by omega
  simp only [c0', decide_false, Bool.false_eq_true, if_false]
  rw [szS_VarDef v.vars ok.2.2.1 ((left - ((v.name.length : Nat) : Int))) (by omega) (by omega)]
  simp only [Out.bindR_ret, List.getD_cons_zero, List.getD_cons_succ, DC.bb_b, DC.ii_i, DC.ss_s, DC.ll_sl]
  by_cases c1 : (left - ((v.name.length : Nat) : Int)) < ((DC.wt (.sl (v.vars.map TVarDef.enc)) : Nat) : Int)
  · rw [szR_lt c1]
    simp only [show (-1 : Int) < 0 by omega, decide_true, if_true]
    try rw [szR_lt (by omega)]
  rw [szR_ge c1]
  have c1' : ¬ (left - ((v.name.length : Nat) : Int)) - ((DC.wt (.sl (v.vars.map TVarDef.enc)) : Nat) : Int) < 0 := by omega
  simp only [c1', decide_false, Bool.false_eq_true, if_false]
  rw [szS_Dir v.dirs ok.2.2.2.1 (((left - ((v.name.length : Nat) : Int)) - ((DC.wt (.sl (v.vars.map TVarDef.enc)) : Nat) : Int))) (by omega) (by omega)]
  simp only [Out.bindR_ret, List.getD_cons_zero, List.getD_cons_succ, DC.bb_b, DC.ii_i, DC.ss_s, DC.ll_sl]
  by_cases c2 : ((left - ((v.name.length : Nat) : Int)) - ((DC.wt (.sl (v.vars.map TVarDef.enc)) : Nat) : Int)) < ((DC.wt (.sl (v.dirs.map TDir.enc)) : Nat) : Int)
  · rw [szR_lt c2]
    simp only [show (-1 : Int) < 0 by omega, decide_true, if_true]
    try rw [szR_lt (by omega)]
  rw [szR_ge c2]
  have c2' : ¬ ((left - ((v.name.length : Nat) : Int)) - ((DC.wt (.sl (v.vars.map TVarDef.enc)) : Nat) : Int)) - ((DC.wt (.sl (v.dirs.map TDir.enc)) : Nat) : Int) < 0 := by omega
  simp only [c2', decide_false, Bool.false_eq_true, if_false]
  rw [szS_Sel v.sels ok.2.2.2.2.1 ((((left - ((v.name.length : Nat) : Int)) - ((DC.wt (.sl (v.vars.map TVarDef.enc)) : Nat) : Int)) - ((DC.wt (.sl (v.dirs.map TDir.enc)) : Nat) : Int))) (by omega) (by omega)]
  simp only [Out.bindR_ret, List.getD_cons_zero, List.getD_cons_succ, DC.bb_b, DC.ii_i, DC.ss_s, DC.ll_sl]
  by_cases c3 : (((left - ((v.name.length : Nat) : Int)) - ((DC.wt (.sl (v.vars.map TVarDef.enc)) : Nat) : Int)) - ((DC.wt (.sl (v.dirs.map TDir.enc)) : Nat) : Int)) < ((DC.wt (.sl (v.sels.map TSel.enc)) : Nat) : Int)
  · rw [szR_lt c3]
    simp only [show (-1 : Int) < 0 by omega, decide_true, if_true]
    try rw [szR_lt (by omega)]
  rw [szR_ge c3]
  have c3' : ¬ (((left - ((v.name.length : Nat) : Int)) - ((DC.wt (.sl (v.vars.map TVarDef.enc)) : Nat) : Int)) - ((DC.wt (.sl (v.dirs.map TDir.enc)) : Nat) : Int)) - ((DC.wt (.sl (v.sels.map TSel.enc)) : Nat) : Int) < 0 := by omega
  simp only [c3', decide_false, Bool.false_eq_true, if_false]
  first
  | done
  | rw [show szR left (v.name.length + DC.wt (.sl (v.vars.map TVarDef.enc)) + DC.wt (.sl (v.dirs.map TDir.enc)) + DC.wt (.sl (v.sels.map TSel.enc))) = ((((left - ((v.name.length : Nat) : Int)) - ((DC.wt (.sl (v.vars.map TVarDef.enc)) : Nat) : Int)) - ((DC.wt (.sl (v.dirs.map TDir.enc)) : Nat) : Int)) - ((DC.wt (.sl (v.sels.map TSel.enc)) : Nat) : Int)) from (szR_ge (by omega)).trans (by omega)]
theorem to_Op (v : TOp) : wtL (TOp.enc v) ≤ 1048576 → r_laws_toOp [.i v.kind, .s v.name, .sl (v.vars.map TVarDef.enc), .sl (v.dirs.map TDir.enc), .sl (v.sels.map TSel.enc)] = .ret (TOp.enc v) := by
  intro hw
  rw [wsum_Op] at hw
  rw [eq_laws_toOp]
  simp only [E_laws_toOp, List.getD_cons_zero, List.getD_cons_succ, DC.bb_b, DC.ii_i, DC.ss_s, DC.ll_sl]
  rw [toS_VarDef v.vars (by omega)]
  simp only [Out.bindR_ret, List.getD_cons_zero, List.getD_cons_succ, DC.bb_b, DC.ii_i, DC.ss_s, DC.ll_sl]
  rw [toS_Dir v.dirs (by omega)]
  simp only [Out.bindR_ret, List.getD_cons_zero, List.getD_cons_succ, DC.bb_b, DC.ii_i, DC.ss_s, DC.ll_sl]
  rw [toS_Sel v.sels (by omega)]
  simp only [Out.bindR_ret, List.getD_cons_zero, List.getD_cons_succ, DC.bb_b, DC.ii_i, DC.ss_s, DC.ll_sl]
  rw [TOp.enc_eq]
theorem eq_Op (v : TOp) : wtL (TOp.enc v) ≤ 1048576 → r_laws_eqOp [.i v.kind, .s v.name, .sl (v.vars.map TVarDef.enc), .sl (v.dirs.map TDir.enc), .sl (v.sels.map TSel.enc), .i v.kind, .s v.name, .sl (v.vars.map TVarDef.enc), .sl (v.dirs.map TDir.enc), .sl (v.sels.map TSel.enc)] = .ret [.b true] := by
  intro hw
  rw [wsum_Op] at hw
  rw [eq_laws_eqOp]
  simp only [E_laws_eqOp, List.getD_cons_zero, List.getD_cons_succ, DC.bb_b, DC.ii_i, DC.ss_s, DC.ll_sl, bne_self_eq_false, beq_self_eq_true, Bool.not_true, Bool.false_eq_true, if_false]
  rw [eqS_VarDef v.vars (by omega)]
  simp only [Out.bindR_ret, List.getD_cons_zero, List.getD_cons_succ, DC.bb_b, DC.ii_i, DC.ss_s, DC.ll_sl, bne_self_eq_false, beq_self_eq_true, Bool.not_true, Bool.false_eq_true, if_false]
  rw [eqS_Dir v.dirs (by omega)]
  simp only [Out.bindR_ret, List.getD_cons_zero, List.getD_cons_succ, DC.bb_b, DC.ii_i, DC.ss_s, DC.ll_sl, bne_self_eq_false, beq_self_eq_true, Bool.not_true, Bool.false_eq_true, if_false]
  rw [eqS_Sel v.sels (by omega)]
  simp only [Out.bindR_ret, List.getD_cons_zero, List.getD_cons_succ, DC.bb_b, DC.ii_i, DC.ss_s, DC.ll_sl, bne_self_eq_false, beq_self_eq_true, Bool.not_true, Bool.false_eq_true, if_false]
theorem wsum_Frag (v : TFrag) : wtL (TFrag.enc v) = v.name.length + v.on'.length + DC.wt (.sl (v.dirs.map TDir.enc)) + DC.wt (.sl (v.sels.map TSel.enc)) := by
  simp only [TFrag.enc_eq, wtL, DC.wt]
  try omega
theorem sz_Frag (v : TFrag) : okL (TFrag.enc v) → ∀ left : Int, 0 ≤ left → left ≤ 1048576 → r_laws_szFrag [.s v.name, .s v.on', .sl (v.dirs.map TDir.enc), .sl (v.sels.map TSel.enc), .i left] = .ret [.i (szR left (wtL (TFrag.enc v)))] := by
  intro ok left h0 h1
  rw [TFrag.enc_eq] at ok
  simp only [okL] at ok
  rw [eq_laws_szFrag]
  simp only [E_laws_szFrag, List.getD_cons_zero, List.getD_cons_succ, DC.bb_b, DC.ii_i, DC.ss_s, DC.ll_sl]
  rw [wsum_Frag]
  have b0 : v.name.length ≤ 9223372036854775807 := by simpa only [DC.ok] using ok.1
  have b1 : v.on'.length ≤ 9223372036854775807 := by simpa only [DC.ok] using ok.2.1
  rw [show IntKind.i64.wrap (left - (v.name.length : Int)) = left - (v.name.length : Int) from wrap64 (by omega) (by omega)]
  by_cases c0 : left < ((v.name.length : Nat) : Int)
  · have c0' : left - ((v.name.length : Nat) : Int) < 0 := by omega
    simp only [c0', decide_true, if_true]
    try rw [szR_lt (by omega)]
  have c0' : ¬ left - ((v.name.length : Nat) : Int) < 0 := by omega
  simp only [c0', decide_false, Bool.false_eq_true, if_false]
  rw [show IntKind.i64.wrap ((left - ((v.name.length : Nat) : Int)) - (v.on'.length : Int)) = (left - ((v.name.length : Nat) : Int)) - (v.on'.length : Int) from wrap64 (by omega) (by omega)]
  by_cases c1 : (left - ((v.name.length : Nat) : Int)) < ((v.on'.length : Nat) : Int)
  · have c1' : (left - ((v.name.length : Nat) : Int)) - ((v.on'.length : Nat) : Int) < 0 := by omega
    simp only [c1', decide_true, if_true]
    try rw [szR_lt (by omega)]
  have c1' : ¬ (left - ((v.name.length : Nat) : Int)) - ((v.on'.length : Nat) : Int) < 0 := by omega
  simp only [c1', decide_false, Bool.false_eq_true, if_false]
  rw [szS_Dir v.dirs ok.2.2.1 (((left - ((v.name.length : Nat) : Int)) - ((v.on'.length : Nat) : Int))) (by omega) (by omega)]
  simp only [Out.bindR_ret, List.getD_cons_zero, List.getD_cons_succ, DC.bb_b, DC.ii_i, DC.ss_s, DC.ll_sl]
  by_cases c2 : ((left - ((v.name.length : Nat) : Int)) - ((v.on'.length : Nat) : Int)) < ((DC.wt (.sl (v.dirs.map TDir.enc)) : Nat) : Int)
  · rw [szR_lt c2]
    simp only [show (-1 : Int) < 0 by omega, decide_true, if_true]
    try rw [szR_lt (by omega)]
  rw [szR_ge c2]
  have c2' : ¬ ((left - ((v.name.length : Nat) : Int)) - ((v.on'.length : Nat) : Int)) - ((DC.wt (.sl (v.dirs.map TDir.enc)) : Nat) : Int) < 0 := by omega
  simp only [c2', decide_false, Bool.false_eq_true, if_false]
  rw [szS_Sel v.sels ok.2.2.2.1 ((((left - ((v.name.length : Nat) : Int)) - ((v.on'.length : Nat) : Int)) - ((DC.wt (.sl (v.dirs.map TDir.enc)) : Nat) : Int))) (by omega) (by omega)]
  simp only [Out.bindR_ret, List.getD_cons_zero, List.getD_cons_succ, DC.bb_b, DC.ii_i, DC.ss_s, DC.ll_sl]
  by_cases c3 : (((left - ((v.name.length : Nat) : Int)) - ((v.on'.length : Nat) : Int)) - ((DC.wt (.sl (v.dirs.map TDir.enc)) : Nat) : Int)) < ((DC.wt (.sl (v.sels.map TSel.enc)) : Nat) : Int)
  · rw [szR_lt c3]
    simp only [show (-1 : Int) < 0 by omega, decide_true, if_true]
    try rw [szR_lt (by omega)]
  rw [szR_ge c3]
  have c3' : ¬ (((left - ((v.name.length : Nat) : Int)) - ((v.on'.length : Nat) : Int)) - ((DC.wt (.sl (v.dirs.map TDir.enc)) : Nat) : Int)) - ((DC.wt (.sl (v.sels.map TSel.enc)) : Nat) : Int) < 0 := by omega
  simp only [c3', decide_false, Bool.false_eq_true, if_false]
  first
  | done
  | rw [show szR left (v.name.length + v.on'.length + DC.wt (.sl (v.dirs.map TDir.enc)) + DC.wt (.sl (v.sels.map TSel.enc))) = ((((left - ((v.name.length : Nat) : Int)) - ((v.on'.length : Nat) : Int)) - ((DC.wt (.sl (v.dirs.map TDir.enc)) : Nat) : Int)) - ((DC.wt (.sl (v.sels.map TSel.enc)) : Nat) : Int)) from (szR_ge (by omega)).trans (by omega)]
theorem to_Frag (v : TFrag) : wtL (TFrag.enc v) ≤ 1048576 → r_laws_toFrag [.s v.name, .s v.on', .sl (v.dirs.map TDir.enc), .sl (v.sels.map TSel.enc)] = .ret (TFrag.enc v) := by
  intro hw
  rw [wsum_Frag] at hw
  rw [eq_laws_toFrag]
  simp only [E_laws_toFrag, List.getD_cons_zero, List.getD_cons_succ, DC.bb_b, DC.ii_i, DC.ss_s, DC.ll_sl]
  rw [toS_Dir v.dirs (by omega)]
  simp only [Out.bindR_ret, List.getD_cons_zero, List.getD_cons_succ, DC.bb_b, DC.ii_i, DC.ss_s, DC.ll_sl]
  rw [toS_Sel v.sels (by omega)]
  simp only [Out.bindR_ret, List.getD_cons_zero, List.getD_cons_succ, DC.bb_b, DC.ii_i, DC.ss_s, DC.ll_sl]
  rw [TFrag.enc_eq]
theorem eq_Frag (v : TFrag) : wtL (TFrag.enc v) ≤ 1048576 → r_laws_eqFrag [.s v.name, .s v.on', .sl (v.dirs.map TDir.enc), .sl (v.sels.map TSel.enc), .s v.name, .s v.on', .sl (v.dirs.map TDir.enc), .sl (v.sels.map TSel.enc)] = .ret [.b true] := by
  intro hw
  rw [wsum_Frag] at hw
  rw [eq_laws_eqFrag]
  simp only [E_laws_eqFrag, List.getD_cons_zero, List.getD_cons_succ, DC.bb_b, DC.ii_i, DC.ss_s, DC.ll_sl, bne_self_eq_false, beq_self_eq_true, Bool.not_true, Bool.false_eq_true, if_false]
  rw [eqS_Dir v.dirs (by omega)]
  simp only [Out.bindR_ret, List.getD_cons_zero, List.getD_cons_succ, DC.bb_b, DC.ii_i, DC.ss_s, DC.ll_sl, bne_self_eq_false, beq_self_eq_true, Bool.not_true, Bool.false_eq_true, if_false]
  rw [eqS_Sel v.sels (by omega)]
  simp only [Out.bindR_ret, List.getD_cons_zero, List.getD_cons_succ, DC.bb_b, DC.ii_i, DC.ss_s, DC.ll_sl, bne_self_eq_false, beq_self_eq_true, Bool.not_true, Bool.false_eq_true, if_false]
theorem wsum_InDef (v : TInDef) : wtL (TInDef.enc v) = v.name.length + v.desc.length + wtL (TType.enc v.type') + wtL (TValue.enc v.default') + DC.wt (.sl (v.dirs.map TDir.enc)) := by
  simp only [TInDef.enc_eq, wtL, DC.wt, TType.enc_eq, TValue.enc_eq]
  try omega
theorem sz_InDef (v : TInDef) : okL (TInDef.enc v) → ∀ left : Int, 0 ≤ left → left ≤ 1048576 → r_laws_szInDef [.s v.name, .s v.desc, .s v.type'.name, .s v.type'.wraps, .b v.has', .i v.default'.kind, .s v.default'.text, .sl (v.default'.items.map TValue.enc), .sl (v.default'.names.map S1), .sl (v.dirs.map TDir.enc), .i left] = .ret [.i (szR left (wtL (TInDef.enc v)))] := by
  intro ok left h0 h1
  rw [TInDef.enc_eq] at ok
  simp only [okL] at ok
  rw [eq_laws_szInDef]
  simp only [E_laws_szInDef, List.getD_cons_zero, List.getD_cons_succ, DC.bb_b, DC.ii_i, DC.ss_s, DC.ll_sl]
  rw [wsum_InDef]
  have b0 : v.name.length ≤ 9223372036854775807 := by simpa only [DC.ok] using ok.1
  have b1 : v.desc.length ≤ 9223372036854775807 := by simpa only [DC.ok] using ok.2.1
  rw [show IntKind.i64.wrap (left - (v.name.length : Int)) = left - (v.name.length : Int) from wrap64 (by omega) (by omega)]
  by_cases c0 : left < ((v.name.length : Nat) : Int)
  · have c0' : left - ((v.name.length : Nat) : Int) < 0 := by omega
    simp only [c0', decide_true, if_true]
    try rw [szR_lt (by omega)]
  have c0' : ¬ left - ((v.name.length : Nat) : Int) < 0 := by omega
  simp only [c0', decide_false, Bool.false_eq_true, if_false]
  rw [show IntKind.i64.wrap ((left - ((v.name.length : Nat) : Int)) - (v.desc.length : Int)) = (left - ((v.name.length : Nat) : Int)) - (v.desc.length : Int) from wrap64 (by omega) (by omega)]
  by_cases c1 : (left - ((v.name.length : Nat) : Int)) < ((v.desc.length : Nat) : Int)
  · have c1' : (left - ((v.name.length : Nat) : Int)) - ((v.desc.length : Nat) : Int) < 0 := by omega
    simp only [c1', decide_true, if_true]
    try rw [szR_lt (by omega)]
  have c1' : ¬ (left - ((v.name.length : Nat) : Int)) - ((v.desc.length : Nat) : Int) < 0 := by omega
  simp only [c1', decide_false, Bool.false_eq_true, if_false]
  rw [sz_Type v.type' (by rw [TType.enc_eq]; simp only [okL]; exact ⟨ok.2.2.1, ok.2.2.2.1, trivial⟩) (((left - ((v.name.length : Nat) : Int)) - ((v.desc.length : Nat) : Int))) (by omega) (by omega)]
  simp only [Out.bindR_ret, List.getD_cons_zero, List.getD_cons_succ, DC.bb_b, DC.ii_i, DC.ss_s, DC.ll_sl]
  by_cases c2 : ((left - ((v.name.length : Nat) : Int)) - ((v.desc.length : Nat) : Int)) < ((wtL (TType.enc v.type') : Nat) : Int)
  · rw [szR_lt c2]
    simp only [show (-1 : Int) < 0 by omega, decide_true, if_true]
    try rw [szR_lt (by omega)]
  rw [szR_ge c2]
  have c2' : ¬ ((left - ((v.name.length : Nat) : Int)) - ((v.desc.length : Nat) : Int)) - ((wtL (TType.enc v.type') : Nat) : Int) < 0 := by omega
  simp only [c2', decide_false, Bool.false_eq_true, if_false]
  rw [sz_Value v.default' (by rw [TValue.enc_eq]; simp only [okL]; exact ⟨ok.2.2.2.2.2.1, ok.2.2.2.2.2.2.1, ok.2.2.2.2.2.2.2.1, ok.2.2.2.2.2.2.2.2.1, trivial⟩) ((((left - ((v.name.length : Nat) : Int)) - ((v.desc.length : Nat) : Int)) - ((wtL (TType.enc v.type') : Nat) : Int))) (by omega) (by omega)]
  simp only [Out.bindR_ret, List.getD_cons_zero, List.getD_cons_succ, DC.bb_b, DC.ii_i, DC.ss_s, DC.ll_sl]
  by_cases c3 : (((left - ((v.name.length : Nat) : Int)) - ((v.desc.length : Nat) : Int)) - ((wtL (TType.enc v.type') : Nat) : Int)) < ((wtL (TValue.enc v.default') : Nat) : Int)
  · rw [szR_lt c3]
    simp only [show (-1 : Int) < 0 by omega, decide_true, if_true]
    try rw [szR_lt (by omega)]
  rw [szR_ge c3]
  have c3' : ¬ (((left - ((v.name.length : Nat) : Int)) - ((v.desc.length : Nat) : Int)) - ((wtL (TType.enc v.type') : Nat) : Int)) - ((wtL (TValue.enc v.default') : Nat) : Int) < 0 := by omega
  simp only [c3', decide_false, Bool.false_eq_true, if_false]
  rw [szS_Dir v.dirs ok.2.2.2.2.2.2.2.2.2.1 (((((left - ((v.name.length : Nat) : Int)) - ((v.desc.length : Nat) : Int)) - ((wtL (TType.enc v.type') : Nat) : Int)) - ((wtL (TValue.enc v.default') : Nat) : Int))) (by omega) (by omega)]
  simp only [Out.bindR_ret, List.getD_cons_zero, List.getD_cons_succ, DC.bb_b, DC.ii_i, DC.ss_s, DC.ll_sl]
  by_cases c4 : ((((left - ((v.name.length : Nat) : Int)) - ((v.desc.length : Nat) : Int)) - ((wtL (TType.enc v.type') : Nat) : Int)) - ((wtL (TValue.enc v.default') : Nat) : Int)) < ((DC.wt (.sl (v.dirs.map TDir.enc)) : Nat) : Int)
  · rw [szR_lt c4]
    simp only [show (-1 : Int) < 0 by omega, decide_true, if_true]
    try rw [szR_lt (by omega)]
  rw [szR_ge c4]
  have c4' : ¬ ((((left - ((v.name.length : Nat) : Int)) - ((v.desc.length : Nat) : Int)) - ((wtL (TType.enc v.type') : Nat) : Int)) - ((wtL (TValue.enc v.default') : Nat) : Int)) - ((DC.wt (.sl (v.dirs.map TDir.enc)) : Nat) : Int) < 0 := by omega
  simp only [c4', decide_false, Bool.false_eq_true, if_false]
  first
  | done
  | rw [show szR left (v.name.length + v.desc.length + wtL (TType.enc v.type') + wtL (TValue.enc v.default') + DC.wt (.sl (v.dirs.map TDir.enc))) = (((((left - ((v.name.length : Nat) : Int)) - ((v.desc.length : Nat) : Int)) - ((wtL (TType.enc v.type') : Nat) : Int)) - ((wtL (TValue.enc v.default') : Nat) : Int)) - ((DC.wt (.sl (v.dirs.map TDir.enc)) : Nat) : Int)) from (szR_ge (by omega)).trans (by omega)]
theorem szS_InDef' (vs : List TInDef) (hs : ∀ v ∈ vs, okL (TInDef.enc v) → ∀ left : Int, 0 ≤ left → left ≤ 1048576 → r_laws_szInDef [.s v.name, .s v.desc, .s v.type'.name, .s v.type'.wraps, .b v.has', .i v.default'.kind, .s v.default'.text, .sl (v.default'.items.map TValue.enc), .sl (v.default'.names.map S1), .sl (v.dirs.map TDir.enc), .i left] = .ret [.i (szR left (wtL (TInDef.enc v)))]) (ok : (DC.sl (vs.map TInDef.enc)).ok) (left : Int) (h0 : 0 ≤ left) (h1 : left ≤ 1048576) : r_laws_szInDefS [.sl (vs.map TInDef.enc), .i left] = .ret [.i (szR left (DC.wt (.sl (vs.map TInDef.enc))))] := by
  rw [DC.ok, List.length_map] at ok
  obtain ⟨hl, ok⟩ := ok
  rw [eq_laws_szInDefS]
  simp only [E_laws_szInDefS, List.getD_cons_zero, List.getD_cons_succ, DC.bb_b, DC.ii_i, DC.ss_s, DC.ll_sl]
  refine szS_all hl (fun i hi left h0 h1 => ?_) (fun left => ?_) h0 h1
  · have key := hs vs[i] (List.getElem_mem hi) (okV_mem ok _ (List.mem_map_of_mem (List.getElem_mem hi))) left h0 h1
    generalize wtL (TInDef.enc vs[i]) = w at key ⊢
    have hc1 : (i : Int) < (vs.length : Int) := by omega
    simp only [E_laws_szInDefSL1, List.getD_cons_zero, List.getD_cons_succ, DC.bb_b, DC.ii_i, DC.ss_s, DC.ll_sl, Int.toNat_natCast, List.length_map, map_getD hi, TInDef.enc_eq, key, Out.bindR_ret]
    by_cases hc : left < (w : Int)
    · simp [hi, hc1, hc, szR_lt hc]
    · simp [hi, hc1, hc, szR_ge hc, show ¬ left - (w : Int) < 0 by omega, wrap_succ hi hl]
  · simp [E_laws_szInDefSL1]
theorem szS_InDef (vs : List TInDef) (ok : (DC.sl (vs.map TInDef.enc)).ok) (left : Int) (h0 : 0 ≤ left) (h1 : left ≤ 1048576) : r_laws_szInDefS [.sl (vs.map TInDef.enc), .i left] = .ret [.i (szR left (DC.wt (.sl (vs.map TInDef.enc))))] := szS_InDef' vs (fun v _ => sz_InDef v) ok left h0 h1
theorem to_InDef (v : TInDef) : wtL (TInDef.enc v) ≤ 1048576 → r_laws_toInDef [.s v.name, .s v.desc, .s v.type'.name, .s v.type'.wraps, .b v.has', .i v.default'.kind, .s v.default'.text, .sl (v.default'.items.map TValue.enc), .sl (v.default'.names.map S1), .sl (v.dirs.map TDir.enc)] = .ret (TInDef.enc v) := by
  intro hw
  rw [wsum_InDef] at hw
  rw [eq_laws_toInDef]
  simp only [E_laws_toInDef, List.getD_cons_zero, List.getD_cons_succ, DC.bb_b, DC.ii_i, DC.ss_s, DC.ll_sl]
  rw [to_Type v.type' (by omega)]
  simp only [Out.bindR_ret, TType.enc_eq, List.getD_cons_zero, List.getD_cons_succ, DC.bb_b, DC.ii_i, DC.ss_s, DC.ll_sl]
  rw [to_Value v.default' (by omega)]
  simp only [Out.bindR_ret, TValue.enc_eq, List.getD_cons_zero, List.getD_cons_succ, DC.bb_b, DC.ii_i, DC.ss_s, DC.ll_sl]
  rw [toS_Dir v.dirs (by omega)]
  simp only [Out.bindR_ret, List.getD_cons_zero, List.getD_cons_succ, DC.bb_b, DC.ii_i, DC.ss_s, DC.ll_sl]
  rw [TInDef.enc_eq]
theorem toS_InDef' (vs : List TInDef) (hs : ∀ v ∈ vs, wtL (TInDef.enc v) ≤ 1048576 → r_laws_toInDef [.s v.name, .s v.desc, .s v.type'.name, .s v.type'.wraps, .b v.has', .i v.default'.kind, .s v.default'.text, .sl (v.default'.items.map TValue.enc), .sl (v.default'.names.map S1), .sl (v.dirs.map TDir.enc)] = .ret (TInDef.enc v)) (hw : DC.wt (.sl (vs.map TInDef.enc)) ≤ 1048576) : r_laws_toInDefS [.sl (vs.map TInDef.enc)] = .ret [.sl (vs.map TInDef.enc)] := by
  rw [DC.wt, List.length_map] at hw
  have hl : vs.length ≤ 1048576 := by omega
  rw [eq_laws_toInDefS]
  simp only [E_laws_toInDefS, List.getD_cons_zero, List.getD_cons_succ, DC.bb_b, DC.ii_i, DC.ss_s, DC.ll_sl]
  rw [if_pos ⟨by omega, by rw [List.length_map]; exact lim_of hl, trivial, by omega, by omega⟩, Int.toNat_natCast, List.length_map, show (0 : Int) = ((0 : Nat) : Int) from rfl, toS_loop hl (fun i hi cur h1 h2 => ?_) (fun cur => ?_)]
  · rfl
  · have key := hs vs[i] (List.getElem_mem hi) (by have := wtV_mem (List.mem_map_of_mem (f := TInDef.enc) (List.getElem_mem hi)); omega)
    have hc1 : (i : Int) < (vs.length : Int) := by omega
    simp only [E_laws_toInDefSL1, List.getD_cons_zero, List.getD_cons_succ, DC.bb_b, DC.ii_i, DC.ss_s, DC.ll_sl, Int.toNat_natCast, List.length_map, map_getD hi, h1, h2, TInDef.enc_eq] at key ⊢
    simp only [key, List.getD_cons_zero, List.getD_cons_succ, DC.bb_b, DC.ii_i, DC.ss_s, DC.ll_sl, Out.bindR_ret]
    simp [hi, hc1, wrap_succ hi (show vs.length ≤ 9223372036854775807 by omega), setRunD]
  · simp [E_laws_toInDefSL1]
theorem toS_InDef (vs : List TInDef) (hw : DC.wt (.sl (vs.map TInDef.enc)) ≤ 1048576) : r_laws_toInDefS [.sl (vs.map TInDef.enc)] = .ret [.sl (vs.map TInDef.enc)] := toS_InDef' vs (fun v _ => to_InDef v) hw
theorem eq_InDef (v : TInDef) : wtL (TInDef.enc v) ≤ 1048576 → r_laws_eqInDef [.s v.name, .s v.desc, .s v.type'.name, .s v.type'.wraps, .b v.has', .i v.default'.kind, .s v.default'.text, .sl (v.default'.items.map TValue.enc), .sl (v.default'.names.map S1), .sl (v.dirs.map TDir.enc), .s v.name, .s v.desc, .s v.type'.name, .s v.type'.wraps, .b v.has', .i v.default'.kind, .s v.default'.text, .sl (v.default'.items.map TValue.enc), .sl (v.default'.names.map S1), .sl (v.dirs.map TDir.enc)] = .ret [.b true] := by
  intro hw
  rw [wsum_InDef] at hw
  rw [eq_laws_eqInDef]
  simp only [E_laws_eqInDef, List.getD_cons_zero, List.getD_cons_succ, DC.bb_b, DC.ii_i, DC.ss_s, DC.ll_sl, bne_self_eq_false, beq_self_eq_true, Bool.not_true, Bool.false_eq_true, if_false]
  rw [eq_Type v.type' (by omega)]
  simp only [Out.bindR_ret, List.getD_cons_zero, List.getD_cons_succ, DC.bb_b, DC.ii_i, DC.ss_s, DC.ll_sl, bne_self_eq_false, beq_self_eq_true, Bool.not_true, Bool.false_eq_true, if_false]
  rw [eq_Value v.default' (by omega)]
  simp only [Out.bindR_ret, List.getD_cons_zero, List.getD_cons_succ, DC.bb_b, DC.ii_i, DC.ss_s, DC.ll_sl, bne_self_eq_false, beq_self_eq_true, Bool.not_true, Bool.false_eq_true, if_false]
  rw [eqS_Dir v.dirs (by omega)]
  simp only [Out.bindR_ret, List.getD_cons_zero, List.getD_cons_succ, DC.bb_b, DC.ii_i, DC.ss_s, DC.ll_sl, bne_self_eq_false, beq_self_eq_true, Bool.not_true, Bool.false_eq_true, if_false]
theorem eqS_InDef' (vs : List TInDef) (hs : ∀ v ∈ vs, wtL (TInDef.enc v) ≤ 1048576 → r_laws_eqInDef [.s v.name, .s v.desc, .s v.type'.name, .s v.type'.wraps, .b v.has', .i v.default'.kind, .s v.default'.text, .sl (v.default'.items.map TValue.enc), .sl (v.default'.names.map S1), .sl (v.dirs.map TDir.enc), .s v.name, .s v.desc, .s v.type'.name, .s v.type'.wraps, .b v.has', .i v.default'.kind, .s v.default'.text, .sl (v.default'.items.map TValue.enc), .sl (v.default'.names.map S1), .sl (v.dirs.map TDir.enc)] = .ret [.b true]) (hw : DC.wt (.sl (vs.map TInDef.enc)) ≤ 1048576) : r_laws_eqInDefS [.sl (vs.map TInDef.enc), .sl (vs.map TInDef.enc)] = .ret [.b true] := by
  rw [DC.wt, List.length_map] at hw
  have hl : vs.length ≤ 1048576 := by omega
  rw [eq_laws_eqInDefS]
  simp only [E_laws_eqInDefS, List.getD_cons_zero, List.getD_cons_succ, DC.bb_b, DC.ii_i, DC.ss_s, DC.ll_sl]
  refine eqS_all (fun i hi => ?_) ?_
  · rw [List.length_map] at hi
    have key := hs vs[i] (List.getElem_mem hi) (by have := wtV_mem (List.mem_map_of_mem (f := TInDef.enc) (List.getElem_mem hi)); omega)
    have hc1 : (i : Int) < (vs.length : Int) := by omega
    simp only [E_laws_eqInDefSL1, List.getD_cons_zero, List.getD_cons_succ, DC.bb_b, DC.ii_i, DC.ss_s, DC.ll_sl, Int.toNat_natCast, List.length_map, map_getD hi, TInDef.enc_eq] at key ⊢
    simp only [key, List.getD_cons_zero, List.getD_cons_succ, DC.bb_b, DC.ii_i, DC.ss_s, DC.ll_sl, Out.bindR_ret]
    simp [hi, hc1, wrap_succ hi (show vs.length ≤ 9223372036854775807 by omega)]
  · simp [E_laws_eqInDefSL1]
theorem eqS_InDef (vs : List TInDef) (hw : DC.wt (.sl (vs.map TInDef.enc)) ≤ 1048576) : r_laws_eqInDefS [.sl (vs.map TInDef.enc), .sl (vs.map TInDef.enc)] = .ret [.b true] := eqS_InDef' vs (fun v _ => eq_InDef v) hw
theorem wsum_FieldDef (v : TFieldDef) : wtL (TFieldDef.enc v) = v.name.length + v.desc.length + DC.wt (.sl (v.args.map TInDef.enc)) + wtL (TType.enc v.type') + DC.wt (.sl (v.dirs.map TDir.enc)) := by
  simp only [TFieldDef.enc_eq, wtL, DC.wt, TType.enc_eq]
  try omega
theorem sz_FieldDef (v : TFieldDef) : okL (TFieldDef.enc v) → ∀ left : Int, 0 ≤ left → left ≤ 1048576 → r_laws_szFieldDef [.s v.name, .s v.desc, .sl (v.args.map TInDef.enc), .s v.type'.name, .s v.type'.wraps, .sl (v.dirs.map TDir.enc), .i left] = .ret [.i (szR left (wtL (TFieldDef.enc v)))] := by
  intro ok left h0 h1
  rw [TFieldDef.enc_eq] at ok
  simp only [okL] at ok
  rw [eq_laws_szFieldDef]
  simp only [E_laws_szFieldDef, List.getD_cons_zero, List.getD_cons_succ, DC.bb_b, DC.ii_i, DC.ss_s, DC.ll_sl]
  rw [wsum_FieldDef]
  have b0 : v.name.length ≤ 9223372036854775807 := by simpa only [DC.ok] using ok.1
  have b1 : v.desc.length ≤ 9223372036854775807 := by simpa only [DC.ok] using ok.2.1
  rw [show IntKind.i64.wrap (left - (v.name.length : Int)) = left - (v.name.length : Int) from wrap64 (by omega) (by omega)]
  by_cases c0 : left < ((v.name.length : Nat) : Int)
  · have c0' : left - ((v.name.length : Nat) : Int) < 0 := by omega
    simp only [c0', decide_true, if_true]
    try rw [szR_lt (by omega)]
  have c0' : ¬ left - ((v.name.length : Nat) : Int) < 0 := by omega
  simp only [c0', decide_false, Bool.false_eq_true, if_false]
  rw [show IntKind.i64.wrap ((left - ((v.name.length : Nat) : Int)) - (v.desc.length : Int)) = (left - ((v.name.length : Nat) : Int)) - (v.desc.length : Int) from wrap64 (by omega) (by omega)]
  by_cases c1 : (left - ((v.name.length : Nat) : Int)) < ((v.desc.length : Nat) : Int)
  · have c1' : (left - ((v.name.length : Nat) : Int)) - ((v.desc.length : Nat) : Int) < 0 := by omega
    simp only [c1', decide_true, if_true]
    try rw [szR_lt (by omega)]
  have c1' : ¬ (left - ((v.name.length : Nat) : Int)) - ((v.desc.length : Nat) : Int) < 0 := by omega
  simp only [c1', decide_false, Bool.false_eq_true, if_false]
  rw [szS_InDef v.args ok.2.2.1 (((left - ((v.name.length : Nat) : Int)) - ((v.desc.length : Nat) : Int))) (by omega) (by omega)]
  simp only [Out.bindR_ret, List.getD_cons_zero, List.getD_cons_succ, DC.bb_b, DC.ii_i, DC.ss_s, DC.ll_sl]
  by_cases c2 : ((left - ((v.name.length : Nat) : Int)) - ((v.desc.length : Nat) : Int)) < ((DC.wt (.sl (v.args.map TInDef.enc)) : Nat) : Int)
  · rw [szR_lt c2]
    simp only [show (-1 : Int) < 0 by omega, decide_true, if_true]
    try rw [szR_lt (by omega)]
  rw [szR_ge c2]
  have c2' : ¬ ((left - ((v.name.length : Nat) : Int)) - ((v.desc.length : Nat) : Int)) - ((DC.wt (.sl (v.args.map TInDef.enc)) : Nat) : Int) < 0 := by omega
  simp only [c2', decide_false, Bool.false_eq_true, if_false]
  rw [sz_Type v.type' (by rw [TType.enc_eq]; simp only [okL]; exact ⟨ok.2.2.2.1, ok.2.2.2.2.1, trivial⟩) ((((left - ((v.name.length : Nat) : Int)) - ((v.desc.length : Nat) : Int)) - ((DC.wt (.sl (v.args.map TInDef.enc)) : Nat) : Int))) (by omega) (by omega)]
  simp only [Out.bindR_ret, List.getD_cons_zero, List.getD_cons_succ, DC.bb_b, DC.ii_i, DC.ss_s, DC.ll_sl]
  by_cases c3 : (((left - ((v.name.length : Nat) : Int)) - ((v.desc.length : Nat) : Int)) - ((DC.wt (.sl (v.args.map TInDef.enc)) : Nat) : Int)) < ((wtL (TType.enc v.type') : Nat) : Int)
  · rw [szR_lt c3]
    simp only [show (-1 : Int) < 0 by omega, decide_true, if_true]
    try rw [szR_lt (by omega)]
  rw [szR_ge c3]
  have c3' : ¬ (((left - ((v.name.length : Nat) : Int)) - ((v.desc.length : Nat) : Int)) - ((DC.wt (.sl (v.args.map TInDef.enc)) : Nat) : Int)) - ((wtL (TType.enc v.type') : Nat) : Int) < 0 := by omega
  simp only [c3', decide_false, Bool.false_eq_true, if_false]
  rw [szS_Dir v.dirs ok.2.2.2.2.2.1 (((((left - ((v.name.length : Nat) : Int)) - ((v.desc.length : Nat) : Int)) - ((DC.wt (.sl (v.args.map TInDef.enc)) : Nat) : Int)) - ((wtL (TType.enc v.type') : Nat) : Int))) (by omega) (by omega)]
  simp only [Out.bindR_ret, List.getD_cons_zero, List.getD_cons_succ, DC.bb_b, DC.ii_i, DC.ss_s, DC.ll_sl]
  by_cases c4 : ((((left - ((v.name.length : Nat) : Int)) - ((v.desc.length : Nat) : Int)) - ((DC.wt (.sl (v.args.map TInDef.enc)) : Nat) : Int)) - ((wtL (TType.enc v.type') : Nat) : Int)) < ((DC.wt (.sl (v.dirs.map TDir.enc)) : Nat) : Int)
  · rw [szR_lt c4]
    simp only [show (-1 : Int) < 0 by omega, decide_true, if_true]
    try rw [szR_lt (by omega)]
  rw [szR_ge c4]
  have c4' : ¬ ((((left - ((v.name.length : Nat) : Int)) - ((v.desc.length : Nat) : Int)) - ((DC.wt (.sl (v.args.map TInDef.enc)) : Nat) : Int)) - ((wtL (TType.enc v.type') : Nat) : Int)) - ((DC.wt (.sl (v.dirs.map TDir.enc)) : Nat) : Int) < 0 := by omega
  simp only [c4', decide_false, Bool.false_eq_true, if_false]
  first
  | done
  | rw [show szR left (v.name.length + v.desc.length + DC.wt (.sl (v.args.map TInDef.enc)) + wtL (TType.enc v.type') + DC.wt (.sl (v.dirs.map TDir.enc))) = (((((left - ((v.name.length : Nat) : Int)) - ((v.desc.length : Nat) : Int)) - ((DC.wt (.sl (v.args.map TInDef.enc)) : Nat) : Int)) - ((wtL (TType.enc v.type') : Nat) : Int)) - ((DC.wt (.sl (v.dirs.map TDir.enc)) : Nat) : Int)) from (szR_ge (by omega)).trans (by omega)]
theorem szS_FieldDef' (vs : List TFieldDef) (hs : ∀ v ∈ vs, okL (TFieldDef.enc v) → ∀ left : Int, 0 ≤ left → left ≤ 1048576 → r_laws_szFieldDef [.s v.name, .s v.desc, .sl (v.args.map TInDef.enc), .s v.type'.name, .s v.type'.wraps, .sl (v.dirs.map TDir.enc), .i left] = .ret [.i (szR left (wtL (TFieldDef.enc v)))]) (ok : (DC.sl (vs.map TFieldDef.enc)).ok) (left : Int) (h0 : 0 ≤ left) (h1 : left ≤ 1048576) : r_laws_szFieldDefS [.sl (vs.map TFieldDef.enc), .i left] = .ret [.i (szR left (DC.wt (.sl (vs.map TFieldDef.enc))))] := by
  rw [DC.ok, List.length_map] at ok
  obtain ⟨hl, ok⟩ := ok
  rw [eq_laws_szFieldDefS]
  simp only [E_laws_szFieldDefS, List.getD_cons_zero, List.getD_cons_succ, DC.bb_b, DC.ii_i, DC.ss_s, DC.ll_sl]
  refine szS_all hl (fun i hi left h0 h1 => ?_) (fun left => ?_) h0 h1
  · have key := hs vs[i] (List.getElem_mem hi) (okV_mem ok _ (List.mem_map_of_mem (List.getElem_mem hi))) left h0 h1
    generalize wtL (TFieldDef.enc vs[i]) = w at key ⊢
    have hc1 : (i : Int) < (vs.length : Int) := by omega
    simp only [E_laws_szFieldDefSL1, List.getD_cons_zero, List.getD_cons_succ, DC.bb_b, DC.ii_i, DC.ss_s, DC.ll_sl, Int.toNat_natCast, List.length_map, map_getD hi, TFieldDef.enc_eq, key, Out.bindR_ret]
    by_cases hc : left < (w : Int)
    · simp [hi, hc1, hc, szR_lt hc]
    · simp [hi, hc1, hc, szR_ge hc, show ¬ left - (w : Int) < 0 by omega, wrap_succ hi hl]
  · simp [E_laws_szFieldDefSL1]
theorem szS_FieldDef (vs : List TFieldDef) (ok : (DC.sl (vs.map TFieldDef.enc)).ok) (left : Int) (h0 : 0 ≤ left) (h1 : left ≤ 1048576) : r_laws_szFieldDefS [.sl (vs.map TFieldDef.enc), .i left] = .ret [.i (szR left (DC.wt (.sl (vs.map TFieldDef.enc))))] := szS_FieldDef' vs (fun v _ => sz_FieldDef v) ok left h0 h1
theorem to_FieldDef (v : TFieldDef) : wtL (TFieldDef.enc v) ≤ 1048576 → r_laws_toFieldDef [.s v.name, .s v.desc, .sl (v.args.map TInDef.enc), .s v.type'.name, .s v.type'.wraps, .sl (v.dirs.map TDir.enc)] = .ret (TFieldDef.enc v) := by
  intro hw
  rw [wsum_FieldDef] at hw
  rw [eq_laws_toFieldDef]
  simp only [E_laws_toFieldDef, List.getD_cons_zero, List.getD_cons_succ, DC.bb_b, DC.ii_i, DC.ss_s, DC.ll_sl]
  rw [toS_InDef v.args (by omega)]
  simp only [Out.bindR_ret, List.getD_cons_zero, List.getD_cons_succ, DC.bb_b, DC.ii_i, DC.ss_s, DC.ll_sl]
  rw [to_Type v.type' (by omega)]
  simp only [Out.bindR_ret, TType.enc_eq, List.getD_cons_zero, List.getD_cons_succ, DC.bb_b, DC.ii_i, DC.ss_s, DC.ll_sl]
  rw [toS_Dir v.dirs (by omega)]
  simp only [Out.bindR_ret, List.getD_cons_zero, List.getD_cons_succ, DC.bb_b, DC.ii_i, DC.ss_s, DC.ll_sl]
  rw [TFieldDef.enc_eq]
theorem toS_FieldDef' (vs : List TFieldDef) (hs : ∀ v ∈ vs, wtL (TFieldDef.enc v) ≤ 1048576 → r_laws_toFieldDef [.s v.name, .s v.desc, .sl (v.args.map TInDef.enc), .s v.type'.name, .s v.type'.wraps, .sl (v.dirs.map TDir.enc)] = .ret (TFieldDef.enc v)) (hw : DC.wt (.sl (vs.map TFieldDef.enc)) ≤ 1048576) : r_laws_toFieldDefS [.sl (vs.map TFieldDef.enc)] = .ret [.sl (vs.map TFieldDef.enc)] := by
  rw [DC.wt, List.length_map] at hw
  have hl : vs.length ≤ 1048576 := by omega
  rw [eq_laws_toFieldDefS]
  simp only [E_laws_toFieldDefS, List.getD_cons_zero, List.getD_cons_succ, DC.bb_b, DC.ii_i, DC.ss_s, DC.ll_sl]
  rw [if_pos ⟨by omega, by rw [List.length_map]; exact lim_of hl, trivial, by omega, by omega⟩, Int.toNat_natCast, List.length_map, show (0 : Int) = ((0 : Nat) : Int) from rfl, toS_loop hl (fun i hi cur h1 h2 => ?_) (fun cur => ?_)]
  · rfl
  · have key := hs vs[i] (List.getElem_mem hi) (by have := wtV_mem (List.mem_map_of_mem (f := TFieldDef.enc) (List.getElem_mem hi)); omega)
    have hc1 : (i : Int) < (vs.length : Int) := by omega
    simp only [E_laws_toFieldDefSL1, List.getD_cons_zero, List.getD_cons_succ, DC.bb_b, DC.ii_i, DC.ss_s, DC.ll_sl, Int.toNat_natCast, List.length_map, map_getD hi, h1, h2, TFieldDef.enc_eq] at key ⊢
    simp only [key, List.getD_cons_zero, List.getD_cons_succ, DC.bb_b, DC.ii_i, DC.ss_s, DC.ll_sl, Out.bindR_ret]
    simp [hi, hc1, wrap_succ hi (show vs.length ≤ 9223372036854775807 by omega), setRunD]
  · simp [E_laws_toFieldDefSL1]
theorem toS_FieldDef (vs : List TFieldDef) (hw : DC.wt (.sl (vs.map TFieldDef.enc)) ≤ 1048576) : r_laws_toFieldDefS [.sl (vs.map TFieldDef.enc)] = .ret [.sl (vs.map TFieldDef.enc)] := toS_FieldDef' vs (fun v _ => to_FieldDef v) hw
theorem eq_FieldDef (v : TFieldDef) : wtL (TFieldDef.enc v) ≤ 1048576 → r_laws_eqFieldDef [.s v.name, .s v.desc, .sl (v.args.map TInDef.enc), .s v.type'.name, .s v.type'.wraps, .sl (v.dirs.map TDir.enc), .s v.name, .s v.desc, .sl (v.args.map TInDef.enc), .s v.type'.name, .s v.type'.wraps, .sl (v.dirs.map TDir.enc)] = .ret [.b true] := by
  intro hw
  rw [wsum_FieldDef] at hw
  rw [eq_laws_eqFieldDef]
  simp only [E_laws_eqFieldDef, List.getD_cons_zero, List.getD_cons_succ, DC.bb_b, DC.ii_i, DC.ss_s, DC.ll_sl, bne_self_eq_false, beq_self_eq_true, Bool.not_true, Bool.false_eq_true, if_false]
  rw [eqS_InDef v.args (by omega)]
  simp only [Out.bindR_ret, List.getD_cons_zero, List.getD_cons_succ, DC.bb_b, DC.ii_i, DC.ss_s, DC.ll_sl, bne_self_eq_false, beq_self_eq_true, Bool.not_true, Bool.false_eq_true, if_false]
  rw [eq_Type v.type' (by omega)]
  simp only [Out.bindR_ret, List.getD_cons_zero, List.getD_cons_succ, DC.bb_b, DC.ii_i, DC.ss_s, DC.ll_sl, bne_self_eq_false, beq_self_eq_true, Bool.not_true, Bool.false_eq_true, if_false]
  rw [eqS_Dir v.dirs (by omega)]
  simp only [Out.bindR_ret, List.getD_cons_zero, List.getD_cons_succ, DC.bb_b, DC.ii_i, DC.ss_s, DC.ll_sl, bne_self_eq_false, beq_self_eq_true, Bool.not_true, Bool.false_eq_true, if_false]
theorem eqS_FieldDef' (vs : List TFieldDef) (hs : ∀ v ∈ vs, wtL (TFieldDef.enc v) ≤ 1048576 → r_laws_eqFieldDef [.s v.name, .s v.desc, .sl (v.args.map TInDef.enc), .s v.type'.name, .s v.type'.wraps, .sl (v.dirs.map TDir.enc), .s v.name, .s v.desc, .sl (v.args.map TInDef.enc), .s v.type'.name, .s v.type'.wraps, .sl (v.dirs.map TDir.enc)] = .ret [.b true]) (hw : DC.wt (.sl (vs.map TFieldDef.enc)) ≤ 1048576) : r_laws_eqFieldDefS [.sl (vs.map TFieldDef.enc), .sl (vs.map TFieldDef.enc)] = .ret [.b true] := by
  rw [DC.wt, List.length_map] at hw
  have hl : vs.length ≤ 1048576 := by omega
  rw [eq_laws_eqFieldDefS]
  simp only [E_laws_eqFieldDefS, List.getD_cons_zero, List.getD_cons_succ, DC.bb_b, DC.ii_i, DC.ss_s, DC.ll_sl]
  refine eqS_all (fun i hi => ?_) ?_
  · rw [List.length_map] at hi
    have key := hs vs[i] (List.getElem_mem hi) (by have := wtV_mem (List.mem_map_of_mem (f := TFieldDef.enc) (List.getElem_mem hi)); omega)
    have hc1 : (i : Int) < (vs.length : Int) := by omega
    simp only [E_laws_eqFieldDefSL1, List.getD_cons_zero, List.getD_cons_succ, DC.bb_b, DC.ii_i, DC.ss_s, DC.ll_sl, Int.toNat_natCast, List.length_map, map_getD hi, TFieldDef.enc_eq] at key ⊢
    simp only [key, List.getD_cons_zero, List.getD_cons_succ, DC.bb_b, DC.ii_i, DC.ss_s, DC.ll_sl, Out.bindR_ret]
    simp [hi, hc1, wrap_succ hi (show vs.length ≤ 9223372036854775807 by omega)]
  · simp [E_laws_eqFieldDefSL1]
theorem eqS_FieldDef (vs : List TFieldDef) (hw : DC.wt (.sl (vs.map TFieldDef.enc)) ≤ 1048576) : r_laws_eqFieldDefS [.sl (vs.map TFieldDef.enc), .sl (vs.map TFieldDef.enc)] = .ret [.b true] := eqS_FieldDef' vs (fun v _ => eq_FieldDef v) hw
theorem wsum_EnumDef (v : TEnumDef) : wtL (TEnumDef.enc v) = v.name.length + v.desc.length + DC.wt (.sl (v.dirs.map TDir.enc)) := by
  simp only [TEnumDef.enc_eq, wtL, DC.wt]
  try omega
theorem sz_EnumDef (v : TEnumDef) : okL (TEnumDef.enc v) → ∀ left : Int, 0 ≤ left → left ≤ 1048576 → r_laws_szEnumDef [.s v.name, .s v.desc, .sl (v.dirs.map TDir.enc), .i left] = .ret [.i (szR left (wtL (TEnumDef.enc v)))] := by
  intro ok left h0 h1
  rw [TEnumDef.enc_eq] at ok
  simp only [okL] at ok
  rw [eq_laws_szEnumDef]
  simp only [E_laws_szEnumDef, List.getD_cons_zero, List.getD_cons_succ, DC.bb_b, DC.ii_i, DC.ss_s, DC.ll_sl]
  rw [wsum_EnumDef]
  have b0 : v.name.length ≤ 9223372036854775807 := by simpa only [DC.ok] using ok.1
  have b1 : v.desc.length ≤ 9223372036854775807 := by simpa only [DC.ok] using ok.2.1
  rw [show IntKind.i64.wrap (left - (v.name.length : Int)) = left - (v.name.length : Int) from wrap64 (by omega) (by omega)]
  by_cases c0 : left < ((v.name.length : Nat) : Int)
  · have c0' : left - ((v.name.length : Nat) : Int) < 0 := by omega
    simp only [c0', decide_true, if_true]
    try rw [szR_lt (by omega)]
  have c0' : ¬ left - ((v.name.length : Nat) : Int) < 0 := by omega
  simp only [c0', decide_false, Bool.false_eq_true, if_false]
  rw [show IntKind.i64.wrap ((left - ((v.name.length : Nat) : Int)) - (v.desc.length : Int)) = (left - ((v.name.length : Nat) : Int)) - (v.desc.length : Int) from wrap64 (by omega) (by omega)]
  by_cases c1 : (left - ((v.name.length : Nat) : Int)) < ((v.desc.length : Nat) : Int)
  · have c1' : (left - ((v.name.length : Nat) : Int)) - ((v.desc.length : Nat) : Int) < 0 := by omega
    simp only [c1', decide_true, if_true]
    try rw [szR_lt (by omega)]
  have c1' : ¬ (left - ((v.name.length : Nat) : Int)) - ((v.desc.length : Nat) : Int) < 0 := by omega
  simp only [c1', decide_false, Bool.false_eq_true, if_false]
  rw [szS_Dir v.dirs ok.2.2.1 (((left - ((v.name.length : Nat) : Int)) - ((v.desc.length : Nat) : Int))) (by omega) (by omega)]
  simp only [Out.bindR_ret, List.getD_cons_zero, List.getD_cons_succ, DC.bb_b, DC.ii_i, DC.ss_s, DC.ll_sl]
  by_cases c2 : ((left - ((v.name.length : Nat) : Int)) - ((v.desc.length : Nat) : Int)) < ((DC.wt (.sl (v.dirs.map TDir.enc)) : Nat) : Int)
  · rw [szR_lt c2]
    simp only [show (-1 : Int) < 0 by omega, decide_true, if_true]
    try rw [szR_lt (by omega)]
  rw [szR_ge c2]
  have c2' : ¬ ((left - ((v.name.length : Nat) : Int)) - ((v.desc.length : Nat) : Int)) - ((DC.wt (.sl (v.dirs.map TDir.enc)) : Nat) : Int) < 0 := by omega
  simp only [c2', decide_false, Bool.false_eq_true, if_false]
  first
  | done
  | rw [show szR left (v.name.length + v.desc.length + DC.wt (.sl (v.dirs.map TDir.enc))) = (((left - ((v.name.length : Nat) : Int)) - ((v.desc.length : Nat) : Int)) - ((DC.wt (.sl (v.dirs.map TDir.enc)) : Nat) : Int)) from (szR_ge (by omega)).trans (by omega)]
theorem szS_EnumDef' (vs : List TEnumDef) (hs : ∀ v ∈ vs, okL (TEnumDef.enc v) → ∀ left : Int, 0 ≤ left → left ≤ 1048576 → r_laws_szEnumDef [.s v.name, .s v.desc, .sl (v.dirs.map TDir.enc), .i left] = .ret [.i (szR left (wtL (TEnumDef.enc v)))]) (ok : (DC.sl (vs.map TEnumDef.enc)).ok) (left : Int) (h0 : 0 ≤ left) (h1 : left ≤ 1048576) : r_laws_szEnumDefS [.sl (vs.map TEnumDef.enc), .i left] = .ret [.i (szR left (DC.wt (.sl (vs.map TEnumDef.enc))))] := by
  rw [DC.ok, List.length_map] at ok
  obtain ⟨hl, ok⟩ := ok
  rw [eq_laws_szEnumDefS]
  simp only [E_laws_szEnumDefS, List.getD_cons_zero, List.getD_cons_succ, DC.bb_b, DC.ii_i, DC.ss_s, DC.ll_sl]
  refine szS_all hl (fun i hi left h0 h1 => ?_) (fun left => ?_) h0 h1
  · have key := hs vs[i] (List.getElem_mem hi) (okV_mem ok _ (List.mem_map_of_mem (List.getElem_mem hi))) left h0 h1
    generalize wtL (TEnumDef.enc vs[i]) = w at key ⊢
    have hc1 : (i : Int) < (vs.length : Int) := by omega
    simp only [E_laws_szEnumDefSL1, List.getD_cons_zero, List.getD_cons_succ, DC.bb_b, DC.ii_i, DC.ss_s, DC.ll_sl, Int.toNat_natCast, List.length_map, map_getD hi, TEnumDef.enc_eq, key, Out.bindR_ret]
    by_cases hc : left < (w : Int)
    · simp [hi, hc1, hc, szR_lt hc]
    · simp [hi, hc1, hc, szR_ge hc, show ¬ left - (w : Int) < 0 by omega, wrap_succ hi hl]
  · simp [E_laws_szEnumDefSL1]
theorem szS_EnumDef (vs : List TEnumDef) (ok : (DC.sl (vs.map TEnumDef.enc)).ok) (left : Int) (h0 : 0 ≤ left) (h1 : left ≤ 1048576) : r_laws_szEnumDefS [.sl (vs.map TEnumDef.enc), .i left] = .ret [.i (szR left (DC.wt (.sl (vs.map TEnumDef.enc))))] := szS_EnumDef' vs (fun v _ => sz_EnumDef v) ok left h0 h1
theorem to_EnumDef (v : TEnumDef) : wtL (TEnumDef.enc v) ≤ 1048576 → r_laws_toEnumDef [.s v.name, .s v.desc, .sl (v.dirs.map TDir.enc)] = .ret (TEnumDef.enc v) := by
  intro hw
  rw [wsum_EnumDef] at hw
  rw [eq_laws_toEnumDef]
  simp only [E_laws_toEnumDef, List.getD_cons_zero, List.getD_cons_succ, DC.bb_b, DC.ii_i, DC.ss_s, DC.ll_sl]
  rw [toS_Dir v.dirs (by omega)]
  simp only [Out.bindR_ret, List.getD_cons_zero, List.getD_cons_succ, DC.bb_b, DC.ii_i, DC.ss_s, DC.ll_sl]
  rw [TEnumDef.enc_eq]
theorem toS_EnumDef' (vs : List TEnumDef) (hs : ∀ v ∈ vs, wtL (TEnumDef.enc v) ≤ 1048576 → r_laws_toEnumDef [.s v.name, .s v.desc, .sl (v.dirs.map TDir.enc)] = .ret (TEnumDef.enc v)) (hw : DC.wt (.sl (vs.map TEnumDef.enc)) ≤ 1048576) : r_laws_toEnumDefS [.sl (vs.map TEnumDef.enc)] = .ret [.sl (vs.map TEnumDef.enc)] := by
  rw [DC.wt, List.length_map] at hw
  have hl : vs.length ≤ 1048576 := by omega
  rw [eq_laws_toEnumDefS]
  simp only [E_laws_toEnumDefS, List.getD_cons_zero, List.getD_cons_succ, DC.bb_b, DC.ii_i, DC.ss_s, DC.ll_sl]
  rw [if_pos ⟨by omega, by rw [List.length_map]; exact lim_of hl, trivial, by omega, by omega⟩, Int.toNat_natCast, List.length_map, show (0 : Int) = ((0 : Nat) : Int) from rfl, toS_loop hl (fun i hi cur h1 h2 => ?_) (fun cur => ?_)]
  · rfl
  · have key := hs vs[i] (List.getElem_mem hi) (by have := wtV_mem (List.mem_map_of_mem (f := TEnumDef.enc) (List.getElem_mem hi)); omega)
    have hc1 : (i : Int) < (vs.length : Int) := by omega
    simp only [E_laws_toEnumDefSL1, List.getD_cons_zero, List.getD_cons_succ, DC.bb_b, DC.ii_i, DC.ss_s, DC.ll_sl, Int.toNat_natCast, List.length_map, map_getD hi, h1, h2, TEnumDef.enc_eq] at key ⊢
    simp only [key, List.getD_cons_zero, List.getD_cons_succ, DC.bb_b, DC.ii_i, DC.ss_s, DC.ll_sl, Out.bindR_ret]
    simp [hi, hc1, wrap_succ hi (show vs.length ≤ 9223372036854775807 by omega), setRunD]
  · simp [E_laws_toEnumDefSL1]
theorem toS_EnumDef (vs : List TEnumDef) (hw : DC.wt (.sl (vs.map TEnumDef.enc)) ≤ 1048576) : r_laws_toEnumDefS [.sl (vs.map TEnumDef.enc)] = .ret [.sl (vs.map TEnumDef.enc)] := toS_EnumDef' vs (fun v _ => to_EnumDef v) hw
theorem eq_EnumDef (v : TEnumDef) : wtL (TEnumDef.enc v) ≤ 1048576 → r_laws_eqEnumDef [.s v.name, .s v.desc, .sl (v.dirs.map TDir.enc), .s v.name, .s v.desc, .sl (v.dirs.map TDir.enc)] = .ret [.b true] := by
  intro hw
  rw [wsum_EnumDef] at hw
  rw [eq_laws_eqEnumDef]
  simp only [E_laws_eqEnumDef, List.getD_cons_zero, List.getD_cons_succ, DC.bb_b, DC.ii_i, DC.ss_s, DC.ll_sl, bne_self_eq_false, beq_self_eq_true, Bool.not_true, Bool.false_eq_true, if_false]
  rw [eqS_Dir v.dirs (by omega)]
  simp only [Out.bindR_ret, List.getD_cons_zero, List.getD_cons_succ, DC.bb_b, DC.ii_i, DC.ss_s, DC.ll_sl, bne_self_eq_false, beq_self_eq_true, Bool.not_true, Bool.false_eq_true, if_false]
theorem eqS_EnumDef' (vs : List TEnumDef) (hs : ∀ v ∈ vs, wtL (TEnumDef.enc v) ≤ 1048576 → r_laws_eqEnumDef [.s v.name, .s v.desc, .sl (v.dirs.map TDir.enc), .s v.name, .s v.desc, .sl (v.dirs.map TDir.enc)] = .ret [.b true]) (hw : DC.wt (.sl (vs.map TEnumDef.enc)) ≤ 1048576) : r_laws_eqEnumDefS [.sl (vs.map TEnumDef.enc), .sl (vs.map TEnumDef.enc)] = .ret [.b true] := by
  rw [DC.wt, List.length_map] at hw
  have hl : vs.length ≤ 1048576 := by omega
  rw [eq_laws_eqEnumDefS]
  simp only [E_laws_eqEnumDefS, List.getD_cons_zero, List.getD_cons_succ, DC.bb_b, DC.ii_i, DC.ss_s, DC.ll_sl]
  refine eqS_all (fun i hi => ?_) ?_
  · rw [List.length_map] at hi
    have key := hs vs[i] (List.getElem_mem hi) (by have := wtV_mem (List.mem_map_of_mem (f := TEnumDef.enc) (List.getElem_mem hi)); omega)
    have hc1 : (i : Int) < (vs.length : Int) := by omega
    simp only [E_laws_eqEnumDefSL1, List.getD_cons_zero, List.getD_cons_succ, DC.bb_b, DC.ii_i, DC.ss_s, DC.ll_sl, Int.toNat_natCast, List.length_map, map_getD hi, TEnumDef.enc_eq] at key ⊢
    simp only [key, List.getD_cons_zero, List.getD_cons_succ, DC.bb_b, DC.ii_i, DC.ss_s, DC.ll_sl, Out.bindR_ret]
    simp [hi, hc1, wrap_succ hi (show vs.length ≤ 9223372036854775807 by omega)]
  · simp [E_laws_eqEnumDefSL1]
theorem eqS_EnumDef (vs : List TEnumDef) (hw : DC.wt (.sl (vs.map TEnumDef.enc)) ≤ 1048576) : r_laws_eqEnumDefS [.sl (vs.map TEnumDef.enc), .sl (vs.map TEnumDef.enc)] = .ret [.b true] := eqS_EnumDef' vs (fun v _ => eq_EnumDef v) hw
theorem wsum_Root (v : TRoot) : wtL (TRoot.enc v) = v.type'.length := by
  simp only [TRoot.enc_eq, wtL, DC.wt]
  try omega
theorem sz_Root (v : TRoot) : okL (TRoot.enc v) → ∀ left : Int, 0 ≤ left → left ≤ 1048576 → r_laws_szRoot [.i v.kind, .s v.type', .i left] = .ret [.i (szR left (wtL (TRoot.enc v)))] := by
  intro ok left h0 h1
  rw [TRoot.enc_eq] at ok
  simp only [okL] at ok
  rw [eq_laws_szRoot]
  simp only [E_laws_szRoot, List.getD_cons_zero, List.getD_cons_succ, DC.bb_b, DC.ii_i, DC.ss_s, DC.ll_sl]
  rw [wsum_Root]
  have b0 : v.type'.length ≤ 9223372036854775807 := by simpa only [DC.ok] using ok.2.1
  rw [show IntKind.i64.wrap (left - (v.type'.length : Int)) = left - (v.type'.length : Int) from wrap64 (by omega) (by omega)]
  by_cases c0 : left < ((v.type'.length : Nat) : Int)
  · have c0' : left - ((v.type'.length : Nat) : Int) < 0 := by omega
    simp only [c0', decide_true, if_true]
    try rw [szR_lt (by omega)]
  have c0' : ¬ left - ((v.type'.length : Nat) : Int) < 0 := by omega
  simp only [c0', decide_false, Bool.false_eq_true, if_false]
  first
  | done
  | rw [show szR left (v.type'.length) = (left - ((v.type'.length : Nat) : Int)) from (szR_ge (by omega)).trans (by omega)]
theorem szS_Root' (vs : List TRoot) (hs : ∀ v ∈ vs, okL (TRoot.enc v) → ∀ left : Int, 0 ≤ left → left ≤ 1048576 → r_laws_szRoot [.i v.kind, .s v.type', .i left] = .ret [.i (szR left (wtL (TRoot.enc v)))]) (ok : (DC.sl (vs.map TRoot.enc)).ok) (left : Int) (h0 : 0 ≤ left) (h1 : left ≤ 1048576) : r_laws_szRootS [.sl (vs.map TRoot.enc), .i left] = .ret [.i (szR left (DC.wt (.sl (vs.map TRoot.enc))))] := by
  rw [DC.ok, List.length_map] at ok
  obtain ⟨hl, ok⟩ := ok
  rw [eq_laws_szRootS]
  simp only [E_laws_szRootS, List.getD_cons_zero, List.getD_cons_succ, DC.bb_b, DC.ii_i, DC.ss_s, DC.ll_sl]
  refine szS_all hl (fun i hi left h0 h1 => ?_) (fun left => ?_) h0 h1
  · have key := hs vs[i] (List.getElem_mem hi) (okV_mem ok _ (List.mem_map_of_mem (List.getElem_mem hi))) left h0 h1
    generalize wtL (TRoot.enc vs[i]) = w at key ⊢
    have hc1 : (i : Int) < (vs.length : Int) := by omega
    simp only [E_laws_szRootSL1, List.getD_cons_zero, List.getD_cons_succ, DC.bb_b, DC.ii_i, DC.ss_s, DC.ll_sl, Int.toNat_natCast, List.length_map, map_getD hi, TRoot.enc_eq, key, Out.bindR_ret]
    by_cases hc : left < (w : Int)
    · simp [hi, hc1, hc, szR_lt hc]
    · simp [hi, hc1, hc, szR_ge hc, show ¬ left - (w : Int) < 0 by omega, wrap_succ hi hl]
  · simp [E_laws_szRootSL1]
theorem szS_Root (vs : List TRoot) (ok : (DC.sl (vs.map TRoot.enc)).ok) (left : Int) (h0 : 0 ≤ left) (h1 : left ≤ 1048576) : r_laws_szRootS [.sl (vs.map TRoot.enc), .i left] = .ret [.i (szR left (DC.wt (.sl (vs.map TRoot.enc))))] := szS_Root' vs (fun v _ => sz_Root v) ok left h0 h1
theorem to_Root (v : TRoot) : wtL (TRoot.enc v) ≤ 1048576 → r_laws_toRoot [.i v.kind, .s v.type'] = .ret (TRoot.enc v) := by
  intro hw
  rw [wsum_Root] at hw
  rw [eq_laws_toRoot]
  simp only [E_laws_toRoot, List.getD_cons_zero, List.getD_cons_succ, DC.bb_b, DC.ii_i, DC.ss_s, DC.ll_sl]
  rw [TRoot.enc_eq]
theorem toS_Root' (vs : List TRoot) (hs : ∀ v ∈ vs, wtL (TRoot.enc v) ≤ 1048576 → r_laws_toRoot [.i v.kind, .s v.type'] = .ret (TRoot.enc v)) (hw : DC.wt (.sl (vs.map TRoot.enc)) ≤ 1048576) : r_laws_toRootS [.sl (vs.map TRoot.enc)] = .ret [.sl (vs.map TRoot.enc)] := by
  rw [DC.wt, List.length_map] at hw
  have hl : vs.length ≤ 1048576 := by omega
  rw [eq_laws_toRootS]
  simp only [E_laws_toRootS, List.getD_cons_zero, List.getD_cons_succ, DC.bb_b, DC.ii_i, DC.ss_s, DC.ll_sl]
  rw [if_pos ⟨by omega, by rw [List.length_map]; exact lim_of hl, trivial, by omega, by omega⟩, Int.toNat_natCast, List.length_map, show (0 : Int) = ((0 : Nat) : Int) from rfl, toS_loop hl (fun i hi cur h1 h2 => ?_) (fun cur => ?_)]
  · rfl
  · have key := hs vs[i] (List.getElem_mem hi) (by have := wtV_mem (List.mem_map_of_mem (f := TRoot.enc) (List.getElem_mem hi)); omega)
    have hc1 : (i : Int) < (vs.length : Int) := by omega
    simp only [E_laws_toRootSL1, List.getD_cons_zero, List.getD_cons_succ, DC.bb_b, DC.ii_i, DC.ss_s, DC.ll_sl, Int.toNat_natCast, List.length_map, map_getD hi, h1, h2, TRoot.enc_eq] at key ⊢
    simp only [key, List.getD_cons_zero, List.getD_cons_succ, DC.bb_b, DC.ii_i, DC.ss_s, DC.ll_sl, Out.bindR_ret]
    simp [hi, hc1, wrap_succ hi (show vs.length ≤ 9223372036854775807 by omega), setRunD]
  · simp [E_laws_toRootSL1]
theorem toS_Root (vs : List TRoot) (hw : DC.wt (.sl (vs.map TRoot.enc)) ≤ 1048576) : r_laws_toRootS [.sl (vs.map TRoot.enc)] = .ret [.sl (vs.map TRoot.enc)] := toS_Root' vs (fun v _ => to_Root v) hw
theorem eq_Root (v : TRoot) : wtL (TRoot.enc v) ≤ 1048576 → r_laws_eqRoot [.i v.kind, .s v.type', .i v.kind, .s v.type'] = .ret [.b true] := by
  intro hw
  rw [wsum_Root] at hw
  rw [eq_laws_eqRoot]
  simp only [E_laws_eqRoot, List.getD_cons_zero, List.getD_cons_succ, DC.bb_b, DC.ii_i, DC.ss_s, DC.ll_sl, bne_self_eq_false, beq_self_eq_true, Bool.not_true, Bool.false_eq_true, if_false]
theorem eqS_Root' (vs : List TRoot) (hs : ∀ v ∈ vs, wtL (TRoot.enc v) ≤ 1048576 → r_laws_eqRoot [.i v.kind, .s v.type', .i v.kind, .s v.type'] = .ret [.b true]) (hw : DC.wt (.sl (vs.map TRoot.enc)) ≤ 1048576) : r_laws_eqRootS [.sl (vs.map TRoot.enc), .sl (vs.map TRoot.enc)] = .ret [.b true] := by
  rw [DC.wt, List.length_map] at hw
  have hl : vs.length ≤ 1048576 := by omega
  rw [eq_laws_eqRootS]
  simp only [E_laws_eqRootS, List.getD_cons_zero, List.getD_cons_succ, DC.bb_b, DC.ii_i, DC.ss_s, DC.ll_sl]
  refine eqS_all (fun i hi => ?_) ?_
  · rw [List.length_map] at hi
    have key := hs vs[i] (List.getElem_mem hi) (by have := wtV_mem (List.mem_map_of_mem (f := TRoot.enc) (List.getElem_mem hi)); omega)
    have hc1 : (i : Int) < (vs.length : Int) := by omega
    simp only [E_laws_eqRootSL1, List.getD_cons_zero, List.getD_cons_succ, DC.bb_b, DC.ii_i, DC.ss_s, DC.ll_sl, Int.toNat_natCast, List.length_map, map_getD hi, TRoot.enc_eq] at key ⊢
    simp only [key, List.getD_cons_zero, List.getD_cons_succ, DC.bb_b, DC.ii_i, DC.ss_s, DC.ll_sl, Out.bindR_ret]
    simp [hi, hc1, wrap_succ hi (show vs.length ≤ 9223372036854775807 by omega)]
  · simp [E_laws_eqRootSL1]
theorem eqS_Root (vs : List TRoot) (hw : DC.wt (.sl (vs.map TRoot.enc)) ≤ 1048576) : r_laws_eqRootS [.sl (vs.map TRoot.enc), .sl (vs.map TRoot.enc)] = .ret [.b true] := eqS_Root' vs (fun v _ => eq_Root v) hw
theorem wsum_Def (v : TDef) : wtL (TDef.enc v) = v.desc.length + v.name.length + DC.wt (.sl (v.faces.map S1)) + DC.wt (.sl (v.fields.map TFieldDef.enc)) + DC.wt (.sl (v.inputs.map TInDef.enc)) + DC.wt (.sl (v.values.map TEnumDef.enc)) + DC.wt (.sl (v.roots.map TRoot.enc)) + DC.wt (.sl (v.dirs.map TDir.enc)) := by
  simp only [TDef.enc_eq, wtL, DC.wt]
  try omega
theorem sz_Def (v : TDef) : okL (TDef.enc v) → ∀ left : Int, 0 ≤ left → left ≤ 1048576 → r_laws_szDef [.i v.kind, .b v.ext, .s v.desc, .s v.name, .sl (v.faces.map S1), .sl (v.fields.map TFieldDef.enc), .sl (v.inputs.map TInDef.enc), .sl (v.values.map TEnumDef.enc), .sl (v.roots.map TRoot.enc), .b v.repeat', .sl (v.dirs.map TDir.enc), .i left] = .ret [.i (szR left (wtL (TDef.enc v)))] := by
  intro ok left h0 h1
  rw [TDef.enc_eq] at ok
  simp only [okL] at ok
  rw [eq_laws_szDef]
  simp only [E_laws_szDef, List.getD_cons_zero, List.getD_cons_succ, DC.bb_b, DC.ii_i, DC.ss_s, DC.ll_sl]
  rw [wsum_Def]
  have b0 : v.desc.length ≤ 9223372036854775807 := by simpa only [DC.ok] using ok.2.2.1
  have b1 : v.name.length ≤ 9223372036854775807 := by simpa only [DC.ok] using ok.2.2.2.1
  rw [show IntKind.i64.wrap (left - (v.desc.length : Int)) = left - (v.desc.length : Int) from wrap64 (by omega) (by omega)]
  by_cases c0 : left < ((v.desc.length : Nat) : Int)
  · have c0' : left - ((v.desc.length : Nat) : Int) < 0 := by omega
    simp only [c0', decide_true, if_true]
    try rw [szR_lt (by omega)]
  have c0' : ¬ left - ((v.desc.length : Nat) : Int) < 0 := by omega
  simp only [c0', decide_false, Bool.false_eq_true, if_false]
  rw [show IntKind.i64.wrap ((left - ((v.desc.length : Nat) : Int)) - (v.name.length : Int)) = (left - ((v.desc.length : Nat) : Int)) - (v.name.length : Int) from wrap64 (by omega) (by omega)]
  by_cases c1 : (left - ((v.desc.length : Nat) : Int)) < ((v.name.length : Nat) : Int)
  · have c1' : (left - ((v.desc.length : Nat) : Int)) - ((v.name.length : Nat) : Int) < 0 := by omega
    simp only [c1', decide_true, if_true]
    try rw [szR_lt (by omega)]
  have c1' : ¬ (left - ((v.desc.length : Nat) : Int)) - ((v.name.length : Nat) : Int) < 0 := by omega
  simp only [c1', decide_false, Bool.false_eq_true, if_false]
  rw [szS_String v.faces ok.2.2.2.2.1 (((left - ((v.desc.length : Nat) : Int)) - ((v.name.length : Nat) : Int))) (by omega) (by omega)]
  simp only [Out.bindR_ret, List.getD_cons_zero, List.getD_cons_succ, DC.bb_b, DC.ii_i, DC.ss_s, DC.ll_sl]
  by_cases c2 : ((left - ((v.desc.length : Nat) : Int)) - ((v.name.length : Nat) : Int)) < ((DC.wt (.sl (v.faces.map S1)) : Nat) : Int)
  · rw [szR_lt c2]
    simp only [show (-1 : Int) < 0 by omega, decide_true, if_true]
    try rw [szR_lt (by omega)]
  rw [szR_ge c2]
  have c2' : ¬ ((left - ((v.desc.length : Nat) : Int)) - ((v.name.length : Nat) : Int)) - ((DC.wt (.sl (v.faces.map S1)) : Nat) : Int) < 0 := by omega
  simp only [c2', decide_false, Bool.false_eq_true, if_false]
  rw [szS_FieldDef v.fields ok.2.2.2.2.2.1 ((((left - ((v.desc.length : Nat) : Int)) - ((v.name.length : Nat) : Int)) - ((DC.wt (.sl (v.faces.map S1)) : Nat) : Int))) (by omega) (by omega)]
  simp only [Out.bindR_ret, List.getD_cons_zero, List.getD_cons_succ, DC.bb_b, DC.ii_i, DC.ss_s, DC.ll_sl]
  by_cases c3 : (((left - ((v.desc.length : Nat) : Int)) - ((v.name.length : Nat) : Int)) - ((DC.wt (.sl (v.faces.map S1)) : Nat) : Int)) < ((DC.wt (.sl (v.fields.map TFieldDef.enc)) : Nat) : Int)
  · rw [szR_lt c3]
    simp only [show (-1 : Int) < 0 by omega, decide_true, if_true]
    try rw [szR_lt (by omega)]
  rw [szR_ge c3]
  have c3' : ¬ (((left - ((v.desc.length : Nat) : Int)) - ((v.name.length : Nat) : Int)) - ((DC.wt (.sl (v.faces.map S1)) : Nat) : Int)) - ((DC.wt (.sl (v.fields.map TFieldDef.enc)) : Nat) : Int) < 0 := by omega
  simp only [c3', decide_false, Bool.false_eq_true, if_false]
  rw [szS_InDef v.inputs ok.2.2.2.2.2.2.1 (((((left - ((v.desc.length : Nat) : Int)) - ((v.name.length : Nat) : Int)) - ((DC.wt (.sl (v.faces.map S1)) : Nat) : Int)) - ((DC.wt (.sl (v.fields.map TFieldDef.enc)) : Nat) : Int))) (by omega) (by omega)]
  simp only [Out.bindR_ret, List.getD_cons_zero, List.getD_cons_succ, DC.bb_b, DC.ii_i, DC.ss_s, DC.ll_sl]
  by_cases c4 : ((((left - ((v.desc.length : Nat) : Int)) - ((v.name.length : Nat) : Int)) - ((DC.wt (.sl (v.faces.map S1)) : Nat) : Int)) - ((DC.wt (.sl (v.fields.map TFieldDef.enc)) : Nat) : Int)) < ((DC.wt (.sl (v.inputs.map TInDef.enc)) : Nat) : Int)
  · rw [szR_lt c4]
    simp only [show (-1 : Int) < 0 by omega, decide_true, if_true]
    try rw [szR_lt (by omega)]
  rw [szR_ge c4]
  have c4' : ¬ ((((left - ((v.desc.length : Nat) : Int)) - ((v.name.length : Nat) : Int)) - ((DC.wt (.sl (v.faces.map S1)) : Nat) : Int)) - ((DC.wt (.sl (v.fields.map TFieldDef.enc)) : Nat) : Int)) - ((DC.wt (.sl (v.inputs.map TInDef.enc)) : Nat) : Int) < 0 := by omega
  simp only [c4', decide_false, Bool.false_eq_true, if_false]
  rw [szS_EnumDef v.values ok.2.2.2.2.2.2.2.1 ((((((left - ((v.desc.length : Nat) : Int)) - ((v.name.length : Nat) : Int)) - ((DC.wt (.sl (v.faces.map S1)) : Nat) : Int)) - ((DC.wt (.sl (v.fields.map TFieldDef.enc)) : Nat) : Int)) - ((DC.wt (.sl (v.inputs.map TInDef.enc)) : Nat) : Int))) (by omega) (by omega)]
  simp only [Out.bindR_ret, List.getD_cons_zero, List.getD_cons_succ, DC.bb_b, DC.ii_i, DC.ss_s, DC.ll_sl]
  by_cases c5 : (((((left - ((v.desc.length : Nat) : Int)) - ((v.name.length : Nat) : Int)) - ((DC.wt (.sl (v.faces.map S1)) : Nat) : Int)) - ((DC.wt (.sl (v.fields.map TFieldDef.enc)) : Nat) : Int)) - ((DC.wt (.sl (v.inputs.map TInDef.enc)) : Nat) : Int)) < ((DC.wt (.sl (v.values.map TEnumDef.enc)) : Nat) : Int)
  · rw [szR_lt c5]
    simp only [show (-1 : Int) < 0 by omega, decide_true, if_true]
    try rw [szR_lt (by omega)]
  rw [szR_ge c5]
  have c5' : ¬ (((((left - ((v.desc.length : Nat) : Int)) - ((v.name.length : Nat) : Int)) - ((DC.wt (.sl (v.faces.map S1)) : Nat) : Int)) - ((DC.wt (.sl (v.fields.map TFieldDef.enc)) : Nat) : Int)) - ((DC.wt (.sl (v.inputs.map TInDef.enc)) : Nat) : Int)) - ((DC.wt (.sl (v.values.map TEnumDef.enc)) : Nat) : Int) < 0 := by omega
  simp only [c5', decide_false, Bool.false_eq_true, if_false]
  rw [szS_Root v.roots ok.2.2.2.2.2.2.2.2.1 (((((((left - ((v.desc.length : Nat) : Int)) - ((v.name.length : Nat) : Int)) - ((DC.wt (.sl (v.faces.map S1)) : Nat) : Int)) - ((DC.wt (.sl (v.fields.map TFieldDef.enc)) : Nat) : Int)) - ((DC.wt (.sl (v.inputs.map TInDef.enc)) : Nat) : Int)) - ((DC.wt (.sl (v.values.map TEnumDef.enc)) : Nat) : Int))) (by omega) (by omega)]
  simp only [Out.bindR_ret, List.getD_cons_zero, List.getD_cons_succ, DC.bb_b, DC.ii_i, DC.ss_s, DC.ll_sl]
  by_cases c6 : ((((((left - ((v.desc.length : Nat) : Int)) - ((v.name.length : Nat) : Int)) - ((DC.wt (.sl (v.faces.map S1)) : Nat) : Int)) - ((DC.wt (.sl (v.fields.map TFieldDef.enc)) : Nat) : Int)) - ((DC.wt (.sl (v.inputs.map TInDef.enc)) : Nat) : Int)) - ((DC.wt (.sl (v.values.map TEnumDef.enc)) : Nat) : Int)) < ((DC.wt (.sl (v.roots.map TRoot.enc)) : Nat) : Int)
  · rw [szR_lt c6]
    simp only [show (-1 : Int) < 0 by omega, decide_true, if_true]
    try rw [szR_lt (by omega)]
  rw [szR_ge c6]
  have c6' : ¬ ((((((left - ((v.desc.length : Nat) : Int)) - ((v.name.length : Nat) : Int)) - ((DC.wt (.sl (v.faces.map S1)) : Nat) : Int)) - ((DC.wt (.sl (v.fields.map TFieldDef.enc)) : Nat) : Int)) - ((DC.wt (.sl (v.inputs.map TInDef.enc)) : Nat) : Int)) - ((DC.wt (.sl (v.values.map TEnumDef.enc)) : Nat) : Int)) - ((DC.wt (.sl (v.roots.map TRoot.enc)) : Nat) : Int) < 0 := by omega
  simp only [c6', decide_false, Bool.false_eq_true, if_false]
  rw [szS_Dir v.dirs ok.2.2.2.2.2.2.2.2.2.2.1 ((((((((left - ((v.desc.length : Nat) : Int)) - ((v.name.length : Nat) : Int)) - ((DC.wt (.sl (v.faces.map S1)) : Nat) : Int)) - ((DC.wt (.sl (v.fields.map TFieldDef.enc)) : Nat) : Int)) - ((DC.wt (.sl (v.inputs.map TInDef.enc)) : Nat) : Int)) - ((DC.wt (.sl (v.values.map TEnumDef.enc)) : Nat) : Int)) - ((DC.wt (.sl (v.roots.map TRoot.enc)) : Nat) : Int))) (by omega) (by omega)]
  simp only [Out.bindR_ret, List.getD_cons_zero, List.getD_cons_succ, DC.bb_b, DC.ii_i, DC.ss_s, DC.ll_sl]
  by_cases c7 : (((((((left - ((v.desc.length : Nat) : Int)) - ((v.name.length : Nat) : Int)) - ((DC.wt (.sl (v.faces.map S1)) : Nat) : Int)) - ((DC.wt (.sl (v.fields.map TFieldDef.enc)) : Nat) : Int)) - ((DC.wt (.sl (v.inputs.map TInDef.enc)) : Nat) : Int)) - ((DC.wt (.sl (v.values.map TEnumDef.enc)) : Nat) : Int)) - ((DC.wt (.sl (v.roots.map TRoot.enc)) : Nat) : Int)) < ((DC.wt (.sl (v.dirs.map TDir.enc)) : Nat) : Int)
  · rw [szR_lt c7]
    simp only [show (-1 : Int) < 0 by omega, decide_true, if_true]
    try rw [szR_lt (by omega)]
  rw [szR_ge c7]
  have c7' : ¬ (((((((left - ((v.desc.length : Nat) : Int)) - ((v.name.length : Nat) : Int)) - ((DC.wt (.sl (v.faces.map S1)) : Nat) : Int)) - ((DC.wt (.sl (v.fields.map TFieldDef.enc)) : Nat) : Int)) - ((DC.wt (.sl (v.inputs.map TInDef.enc)) : Nat) : Int)) - ((DC.wt (.sl (v.values.map TEnumDef.enc)) : Nat) : Int)) - ((DC.wt (.sl (v.roots.map TRoot.enc)) : Nat) : Int)) - ((DC.wt (.sl (v.dirs.map TDir.enc)) : Nat) : Int) < 0 := by omega
  simp only [c7', decide_false, Bool.false_eq_true, if_false]
  first
  | done
  | rw [show szR left (v.desc.length + v.name.length + DC.wt (.sl (v.faces.map S1)) + DC.wt (.sl (v.fields.map TFieldDef.enc)) + DC.wt (.sl (v.inputs.map TInDef.enc)) + DC.wt (.sl (v.values.map TEnumDef.enc)) + DC.wt (.sl (v.roots.map TRoot.enc)) + DC.wt (.sl (v.dirs.map TDir.enc))) = ((((((((left - ((v.desc.length : Nat) : Int)) - ((v.name.length : Nat) : Int)) - ((DC.wt (.sl (v.faces.map S1)) : Nat) : Int)) - ((DC.wt (.sl (v.fields.map TFieldDef.enc)) : Nat) : Int)) - ((DC.wt (.sl (v.inputs.map TInDef.enc)) : Nat) : Int)) - ((DC.wt (.sl (v.values.map TEnumDef.enc)) : Nat) : Int)) - ((DC.wt (.sl (v.roots.map TRoot.enc)) : Nat) : Int)) - ((DC.wt (.sl (v.dirs.map TDir.enc)) : Nat) : Int)) from (szR_ge (by omega)).trans (by omega)]
theorem to_Def (v : TDef) : wtL (TDef.enc v) ≤ 1048576 → r_laws_toDef [.i v.kind, .b v.ext, .s v.desc, .s v.name, .sl (v.faces.map S1), .sl (v.fields.map TFieldDef.enc), .sl (v.inputs.map TInDef.enc), .sl (v.values.map TEnumDef.enc), .sl (v.roots.map TRoot.enc), .b v.repeat', .sl (v.dirs.map TDir.enc)] = .ret (TDef.enc v) := by
  intro hw
  rw [wsum_Def] at hw
  rw [eq_laws_toDef]
  simp only [E_laws_toDef, List.getD_cons_zero, List.getD_cons_succ, DC.bb_b, DC.ii_i, DC.ss_s, DC.ll_sl]
  rw [toS_String v.faces (by have h := hw; simp only [DC.wt, List.length_map] at h; omega)]
  simp only [Out.bindR_ret, List.getD_cons_zero, List.getD_cons_succ, DC.bb_b, DC.ii_i, DC.ss_s, DC.ll_sl]
  rw [toS_FieldDef v.fields (by omega)]
  simp only [Out.bindR_ret, List.getD_cons_zero, List.getD_cons_succ, DC.bb_b, DC.ii_i, DC.ss_s, DC.ll_sl]
  rw [toS_InDef v.inputs (by omega)]
  simp only [Out.bindR_ret, List.getD_cons_zero, List.getD_cons_succ, DC.bb_b, DC.ii_i, DC.ss_s, DC.ll_sl]
  rw [toS_EnumDef v.values (by omega)]
  simp only [Out.bindR_ret, List.getD_cons_zero, List.getD_cons_succ, DC.bb_b, DC.ii_i, DC.ss_s, DC.ll_sl]
  rw [toS_Root v.roots (by omega)]
  simp only [Out.bindR_ret, List.getD_cons_zero, List.getD_cons_succ, DC.bb_b, DC.ii_i, DC.ss_s, DC.ll_sl]
  rw [toS_Dir v.dirs (by omega)]
  simp only [Out.bindR_ret, List.getD_cons_zero, List.getD_cons_succ, DC.bb_b, DC.ii_i, DC.ss_s, DC.ll_sl]
  rw [TDef.enc_eq]
theorem eq_Def (v : TDef) : wtL (TDef.enc v) ≤ 1048576 → r_laws_eqDef [.i v.kind, .b v.ext, .s v.desc, .s v.name, .sl (v.faces.map S1), .sl (v.fields.map TFieldDef.enc), .sl (v.inputs.map TInDef.enc), .sl (v.values.map TEnumDef.enc), .sl (v.roots.map TRoot.enc), .b v.repeat', .sl (v.dirs.map TDir.enc), .i v.kind, .b v.ext, .s v.desc, .s v.name, .sl (v.faces.map S1), .sl (v.fields.map TFieldDef.enc), .sl (v.inputs.map TInDef.enc), .sl (v.values.map TEnumDef.enc), .sl (v.roots.map TRoot.enc), .b v.repeat', .sl (v.dirs.map TDir.enc)] = .ret [.b true] := by
  intro hw
  rw [wsum_Def] at hw
  rw [eq_laws_eqDef]
  simp only [E_laws_eqDef, List.getD_cons_zero, List.getD_cons_succ, DC.bb_b, DC.ii_i, DC.ss_s, DC.ll_sl, bne_self_eq_false, beq_self_eq_true, Bool.not_true, Bool.false_eq_true, if_false]
  rw [eqS_String v.faces (by have h := hw; simp only [DC.wt, List.length_map] at h; omega)]
  simp only [Out.bindR_ret, List.getD_cons_zero, List.getD_cons_succ, DC.bb_b, DC.ii_i, DC.ss_s, DC.ll_sl, bne_self_eq_false, beq_self_eq_true, Bool.not_true, Bool.false_eq_true, if_false]
  rw [eqS_FieldDef v.fields (by omega)]
  simp only [Out.bindR_ret, List.getD_cons_zero, List.getD_cons_succ, DC.bb_b, DC.ii_i, DC.ss_s, DC.ll_sl, bne_self_eq_false, beq_self_eq_true, Bool.not_true, Bool.false_eq_true, if_false]
  rw [eqS_InDef v.inputs (by omega)]
  simp only [Out.bindR_ret, List.getD_cons_zero, List.getD_cons_succ, DC.bb_b, DC.ii_i, DC.ss_s, DC.ll_sl, bne_self_eq_false, beq_self_eq_true, Bool.not_true, Bool.false_eq_true, if_false]
  rw [eqS_EnumDef v.values (by omega)]
  simp only [Out.bindR_ret, List.getD_cons_zero, List.getD_cons_succ, DC.bb_b, DC.ii_i, DC.ss_s, DC.ll_sl, bne_self_eq_false, beq_self_eq_true, Bool.not_true, Bool.false_eq_true, if_false]
  rw [eqS_Root v.roots (by omega)]
  simp only [Out.bindR_ret, List.getD_cons_zero, List.getD_cons_succ, DC.bb_b, DC.ii_i, DC.ss_s, DC.ll_sl, bne_self_eq_false, beq_self_eq_true, Bool.not_true, Bool.false_eq_true, if_false]
  rw [eqS_Dir v.dirs (by omega)]
  simp only [Out.bindR_ret, List.getD_cons_zero, List.getD_cons_succ, DC.bb_b, DC.ii_i, DC.ss_s, DC.ll_sl, bne_self_eq_false, beq_self_eq_true, Bool.not_true, Bool.false_eq_true, if_false]
theorem wsum_Item (v : TItem) : wtL (TItem.enc v) = wtL (TOp.enc v.op) + wtL (TFrag.enc v.frag) + wtL (TDef.enc v.def') := by
  simp only [TItem.enc_eq, wtL, DC.wt, TOp.enc_eq, TFrag.enc_eq, TDef.enc_eq]
  try omega
theorem sz_Item (v : TItem) : okL (TItem.enc v) → ∀ left : Int, 0 ≤ left → left ≤ 1048576 → r_laws_szItem [.i v.kind, .i v.op.kind, .s v.op.name, .sl (v.op.vars.map TVarDef.enc), .sl (v.op.dirs.map TDir.enc), .sl (v.op.sels.map TSel.enc), .s v.frag.name, .s v.frag.on', .sl (v.frag.dirs.map TDir.enc), .sl (v.frag.sels.map TSel.enc), .i v.def'.kind, .b v.def'.ext, .s v.def'.desc, .s v.def'.name, .sl (v.def'.faces.map S1), .sl (v.def'.fields.map TFieldDef.enc), .sl (v.def'.inputs.map TInDef.enc), .sl (v.def'.values.map TEnumDef.enc), .sl (v.def'.roots.map TRoot.enc), .b v.def'.repeat', .sl (v.def'.dirs.map TDir.enc), .i left] = .ret [.i (szR left (wtL (TItem.enc v)))] := by
  intro ok left h0 h1
  rw [TItem.enc_eq] at ok
  simp only [okL] at ok
  rw [eq_laws_szItem]
  simp only [E_laws_szItem, List.getD_cons_zero, List.getD_cons_succ, DC.bb_b, DC.ii_i, DC.ss_s, DC.ll_sl]
  rw [wsum_Item]
  rw [sz_Op v.op (by rw [TOp.enc_eq]; simp only [okL]; exact ⟨ok.2.1, ok.2.2.1, ok.2.2.2.1, ok.2.2.2.2.1, ok.2.2.2.2.2.1, trivial⟩) (left) (by omega) (by omega)]
  simp only [Out.bindR_ret, List.getD_cons_zero, List.getD_cons_succ, DC.bb_b, DC.ii_i, DC.ss_s, DC.ll_sl]
  by_cases c0 : left < ((wtL (TOp.enc v.op) : Nat) : Int)
  · rw [szR_lt c0]
    simp only [show (-1 : Int) < 0 by omega, decide_true, if_true]
    try rw [szR_lt (by omega)]
  rw [szR_ge c0]
  have c0' : ¬ left - ((wtL (TOp.enc v.op) : Nat) : Int) < 0 := by omega
  simp only [c0', decide_false, Bool.false_eq_true, if_false]
  rw [sz_Frag v.frag (by rw [TFrag.enc_eq]; simp only [okL]; exact ⟨ok.2.2.2.2.2.2.1, ok.2.2.2.2.2.2.2.1, ok.2.2.2.2.2.2.2.2.1, ok.2.2.2.2.2.2.2.2.2.1, trivial⟩) ((left - ((wtL (TOp.enc v.op) : Nat) : Int))) (by omega) (by omega)]
  simp only [Out.bindR_ret, List.getD_cons_zero, List.getD_cons_succ, DC.bb_b, DC.ii_i, DC.ss_s, DC.ll_sl]
  by_cases c1 : (left - ((wtL (TOp.enc v.op) : Nat) : Int)) < ((wtL (TFrag.enc v.frag) : Nat) : Int)
  · rw [szR_lt c1]
    simp only [show (-1 : Int) < 0 by omega, decide_true, if_true]
    try rw [szR_lt (by omega)]
  rw [szR_ge c1]
  have c1' : ¬ (left - ((wtL (TOp.enc v.op) : Nat) : Int)) - ((wtL (TFrag.enc v.frag) : Nat) : Int) < 0 := by omega
  simp only [c1', decide_false, Bool.false_eq_true, if_false]
  rw [sz_Def v.def' (by rw [TDef.enc_eq]; simp only [okL]; exact ⟨ok.2.2.2.2.2.2.2.2.2.2.1, ok.2.2.2.2.2.2.2.2.2.2.2.1, ok.2.2.2.2.2.2.2.2.2.2.2.2.1, ok.2.2.2.2.2.2.2.2.2.2.2.2.2.1, ok.2.2.2.2.2.2.2.2.2.2.2.2.2.2.1, ok.2.2.2.2.2.2.2.2.2.2.2.2.2.2.2.1, ok.2.2.2.2.2.2.2.2.2.2.2.2.2.2.2.2.1, ok.2.2.2.2.2.2.2.2.2.2.2.2.2.2.2.2.2.1, ok.2.2.2.2.2.2.2.2.2.2.2.2.2.2.2.2.2.2.1, ok.2.2.2.2.2.2.2.2.2.2.2.2.2.2.2.2.2.2.2.1, ok.2.2.2.2.2.2.2.2.2.2.2.2.2.2.2.2.2.2.2.2.1, trivial⟩) (((left - ((wtL (TOp.enc v.op) : Nat) : Int)) - ((wtL (TFrag.enc v.frag) : Nat) : Int))) (by omega) (by omega)]
  simp only [Out.bindR_ret, List.getD_cons_zero, List.getD_cons_succ, DC.bb_b, DC.ii_i, DC.ss_s, DC.ll_sl]
  by_cases c2 : ((left - ((wtL (TOp.enc v.op) : Nat) : Int)) - ((wtL (TFrag.enc v.frag) : Nat) : Int)) < ((wtL (TDef.enc v.def') : Nat) : Int)
  · rw [szR_lt c2]
    simp only [show (-1 : Int) < 0 by omega, decide_true, if_true]
    try rw [szR_lt (by omega)]
  rw [szR_ge c2]
  have c2' : ¬ ((left - ((wtL (TOp.enc v.op) : Nat) : Int)) - ((wtL (TFrag.enc v.frag) : Nat) : Int)) - ((wtL (TDef.enc v.def') : Nat) : Int) < 0 := by omega
  simp only [c2', decide_false, Bool.false_eq_true, if_false]
  first
  | done
  | rw [show szR left (wtL (TOp.enc v.op) + wtL (TFrag.enc v.frag) + wtL (TDef.enc v.def')) = (((left - ((wtL (TOp.enc v.op) : Nat) : Int)) - ((wtL (TFrag.enc v.frag) : Nat) : Int)) - ((wtL (TDef.enc v.def') : Nat) : Int)) from (szR_ge (by omega)).trans (by omega)]
theorem szS_Item' (vs : List TItem) (hs : ∀ v ∈ vs, okL (TItem.enc v) → ∀ left : Int, 0 ≤ left → left ≤ 1048576 → r_laws_szItem [.i v.kind, .i v.op.kind, .s v.op.name, .sl (v.op.vars.map TVarDef.enc), .sl (v.op.dirs.map TDir.enc), .sl (v.op.sels.map TSel.enc), .s v.frag.name, .s v.frag.on', .sl (v.frag.dirs.map TDir.enc), .sl (v.frag.sels.map TSel.enc), .i v.def'.kind, .b v.def'.ext, .s v.def'.desc, .s v.def'.name, .sl (v.def'.faces.map S1), .sl (v.def'.fields.map TFieldDef.enc), .sl (v.def'.inputs.map TInDef.enc), .sl (v.def'.values.map TEnumDef.enc), .sl (v.def'.roots.map TRoot.enc), .b v.def'.repeat', .sl (v.def'.dirs.map TDir.enc), .i left] = .ret [.i (szR left (wtL (TItem.enc v)))]) (ok : (DC.sl (vs.map TItem.enc)).ok) (left : Int) (h0 : 0 ≤ left) (h1 : left ≤ 1048576) : r_laws_szItemS [.sl (vs.map TItem.enc), .i left] = .ret [.i (szR left (DC.wt (.sl (vs.map TItem.enc))))] := by
  rw [DC.ok, List.length_map] at ok
  obtain ⟨hl, ok⟩ := ok
  rw [eq_laws_szItemS]
  simp only [E_laws_szItemS, List.getD_cons_zero, List.getD_cons_succ, DC.bb_b, DC.ii_i, DC.ss_s, DC.ll_sl]
  refine szS_all hl (fun i hi left h0 h1 => ?_) (fun left => ?_) h0 h1
  · have key := hs vs[i] (List.getElem_mem hi) (okV_mem ok _ (List.mem_map_of_mem (List.getElem_mem hi))) left h0 h1
    generalize wtL (TItem.enc vs[i]) = w at key ⊢
    have hc1 : (i : Int) < (vs.length : Int) := by omega
    simp only [E_laws_szItemSL1, List.getD_cons_zero, List.getD_cons_succ, DC.bb_b, DC.ii_i, DC.ss_s, DC.ll_sl, Int.toNat_natCast, List.length_map, map_getD hi, TItem.enc_eq, key, Out.bindR_ret]
    by_cases hc : left < (w : Int)
    · simp [hi, hc1, hc, szR_lt hc]
    · simp [hi, hc1, hc, szR_ge hc, show ¬ left - (w : Int) < 0 by omega, wrap_succ hi hl]
  · simp [E_laws_szItemSL1]
theorem szS_Item (vs : List TItem) (ok : (DC.sl (vs.map TItem.enc)).ok) (left : Int) (h0 : 0 ≤ left) (h1 : left ≤ 1048576) : r_laws_szItemS [.sl (vs.map TItem.enc), .i left] = .ret [.i (szR left (DC.wt (.sl (vs.map TItem.enc))))] := szS_Item' vs (fun v _ => sz_Item v) ok left h0 h1
theorem to_Item (v : TItem) : wtL (TItem.enc v) ≤ 1048576 → r_laws_toItem [.i v.kind, .i v.op.kind, .s v.op.name, .sl (v.op.vars.map TVarDef.enc), .sl (v.op.dirs.map TDir.enc), .sl (v.op.sels.map TSel.enc), .s v.frag.name, .s v.frag.on', .sl (v.frag.dirs.map TDir.enc), .sl (v.frag.sels.map TSel.enc), .i v.def'.kind, .b v.def'.ext, .s v.def'.desc, .s v.def'.name, .sl (v.def'.faces.map S1), .sl (v.def'.fields.map TFieldDef.enc), .sl (v.def'.inputs.map TInDef.enc), .sl (v.def'.values.map TEnumDef.enc), .sl (v.def'.roots.map TRoot.enc), .b v.def'.repeat', .sl (v.def'.dirs.map TDir.enc)] = .ret (TItem.enc v) := by
  intro hw
  rw [wsum_Item] at hw
  rw [eq_laws_toItem]
  simp only [E_laws_toItem, List.getD_cons_zero, List.getD_cons_succ, DC.bb_b, DC.ii_i, DC.ss_s, DC.ll_sl]
  rw [to_Op v.op (by omega)]
  simp only [Out.bindR_ret, TOp.enc_eq, List.getD_cons_zero, List.getD_cons_succ, DC.bb_b, DC.ii_i, DC.ss_s, DC.ll_sl]
  rw [to_Frag v.frag (by omega)]
  simp only [Out.bindR_ret, TFrag.enc_eq, List.getD_cons_zero, List.getD_cons_succ, DC.bb_b, DC.ii_i, DC.ss_s, DC.ll_sl]
  rw [to_Def v.def' (by omega)]
  simp only [Out.bindR_ret, TDef.enc_eq, List.getD_cons_zero, List.getD_cons_succ, DC.bb_b, DC.ii_i, DC.ss_s, DC.ll_sl]
  rw [TItem.enc_eq]
theorem toS_Item' (vs : List TItem) (hs : ∀ v ∈ vs, wtL (TItem.enc v) ≤ 1048576 → r_laws_toItem [.i v.kind, .i v.op.kind, .s v.op.name, .sl (v.op.vars.map TVarDef.enc), .sl (v.op.dirs.map TDir.enc), .sl (v.op.sels.map TSel.enc), .s v.frag.name, .s v.frag.on', .sl (v.frag.dirs.map TDir.enc), .sl (v.frag.sels.map TSel.enc), .i v.def'.kind, .b v.def'.ext, .s v.def'.desc, .s v.def'.name, .sl (v.def'.faces.map S1), .sl (v.def'.fields.map TFieldDef.enc), .sl (v.def'.inputs.map TInDef.enc), .sl (v.def'.values.map TEnumDef.enc), .sl (v.def'.roots.map TRoot.enc), .b v.def'.repeat', .sl (v.def'.dirs.map TDir.enc)] = .ret (TItem.enc v)) (hw : DC.wt (.sl (vs.map TItem.enc)) ≤ 1048576) : r_laws_toItemS [.sl (vs.map TItem.enc)] = .ret [.sl (vs.map TItem.enc)] := by
  rw [DC.wt, List.length_map] at hw
  have hl : vs.length ≤ 1048576 := by omega
  rw [eq_laws_toItemS]
  simp only [E_laws_toItemS, List.getD_cons_zero, List.getD_cons_succ, DC.bb_b, DC.ii_i, DC.ss_s, DC.ll_sl]
  rw [if_pos ⟨by omega, by rw [List.length_map]; exact lim_of hl, trivial, by omega, by omega⟩, Int.toNat_natCast, List.length_map, show (0 : Int) = ((0 : Nat) : Int) from rfl, toS_loop hl (fun i hi cur h1 h2 => ?_) (fun cur => ?_)]
  · rfl
  · have key := hs vs[i] (List.getElem_mem hi) (by have := wtV_mem (List.mem_map_of_mem (f := TItem.enc) (List.getElem_mem hi)); omega)
    have hc1 : (i : Int) < (vs.length : Int) := by omega
    simp only [E_laws_toItemSL1, List.getD_cons_zero, List.getD_cons_succ, DC.bb_b, DC.ii_i, DC.ss_s, DC.ll_sl, Int.toNat_natCast, List.length_map, map_getD hi, h1, h2, TItem.enc_eq] at key ⊢
    simp only [key, List.getD_cons_zero, List.getD_cons_succ, DC.bb_b, DC.ii_i, DC.ss_s, DC.ll_sl, Out.bindR_ret]
    simp [hi, hc1, wrap_succ hi (show vs.length ≤ 9223372036854775807 by omega), setRunD]
  · simp [E_laws_toItemSL1]
theorem toS_Item (vs : List TItem) (hw : DC.wt (.sl (vs.map TItem.enc)) ≤ 1048576) : r_laws_toItemS [.sl (vs.map TItem.enc)] = .ret [.sl (vs.map TItem.enc)] := toS_Item' vs (fun v _ => to_Item v) hw
theorem eq_Item (v : TItem) : wtL (TItem.enc v) ≤ 1048576 → r_laws_eqItem [.i v.kind, .i v.op.kind, .s v.op.name, .sl (v.op.vars.map TVarDef.enc), .sl (v.op.dirs.map TDir.enc), .sl (v.op.sels.map TSel.enc), .s v.frag.name, .s v.frag.on', .sl (v.frag.dirs.map TDir.enc), .sl (v.frag.sels.map TSel.enc), .i v.def'.kind, .b v.def'.ext, .s v.def'.desc, .s v.def'.name, .sl (v.def'.faces.map S1), .sl (v.def'.fields.map TFieldDef.enc), .sl (v.def'.inputs.map TInDef.enc), .sl (v.def'.values.map TEnumDef.enc), .sl (v.def'.roots.map TRoot.enc), .b v.def'.repeat', .sl (v.def'.dirs.map TDir.enc), .i v.kind, .i v.op.kind, .s v.op.name, .sl (v.op.vars.map TVarDef.enc), .sl (v.op.dirs.map TDir.enc), .sl (v.op.sels.map TSel.enc), .s v.frag.name, .s v.frag.on', .sl (v.frag.dirs.map TDir.enc), .sl (v.frag.sels.map TSel.enc), .i v.def'.kind, .b v.def'.ext, .s v.def'.desc, .s v.def'.name, .sl (v.def'.faces.map S1), .sl (v.def'.fields.map TFieldDef.enc), .sl (v.def'.inputs.map TInDef.enc), .sl (v.def'.values.map TEnumDef.enc), .sl (v.def'.roots.map TRoot.enc), .b v.def'.repeat', .sl (v.def'.dirs.map TDir.enc)] = .ret [.b true] := by
  intro hw
  rw [wsum_Item] at hw
  rw [eq_laws_eqItem]
  simp only [E_laws_eqItem, List.getD_cons_zero, List.getD_cons_succ, DC.bb_b, DC.ii_i, DC.ss_s, DC.ll_sl, bne_self_eq_false, beq_self_eq_true, Bool.not_true, Bool.false_eq_true, if_false]
  rw [eq_Op v.op (by omega)]
  simp only [Out.bindR_ret, List.getD_cons_zero, List.getD_cons_succ, DC.bb_b, DC.ii_i, DC.ss_s, DC.ll_sl, bne_self_eq_false, beq_self_eq_true, Bool.not_true, Bool.false_eq_true, if_false]
  rw [eq_Frag v.frag (by omega)]
  simp only [Out.bindR_ret, List.getD_cons_zero, List.getD_cons_succ, DC.bb_b, DC.ii_i, DC.ss_s, DC.ll_sl, bne_self_eq_false, beq_self_eq_true, Bool.not_true, Bool.false_eq_true, if_false]
  rw [eq_Def v.def' (by omega)]
  simp only [Out.bindR_ret, List.getD_cons_zero, List.getD_cons_succ, DC.bb_b, DC.ii_i, DC.ss_s, DC.ll_sl, bne_self_eq_false, beq_self_eq_true, Bool.not_true, Bool.false_eq_true, if_false]
theorem eqS_Item' (vs : List TItem) (hs : ∀ v ∈ vs, wtL (TItem.enc v) ≤ 1048576 → r_laws_eqItem [.i v.kind, .i v.op.kind, .s v.op.name, .sl (v.op.vars.map TVarDef.enc), .sl (v.op.dirs.map TDir.enc), .sl (v.op.sels.map TSel.enc), .s v.frag.name, .s v.frag.on', .sl (v.frag.dirs.map TDir.enc), .sl (v.frag.sels.map TSel.enc), .i v.def'.kind, .b v.def'.ext, .s v.def'.desc, .s v.def'.name, .sl (v.def'.faces.map S1), .sl (v.def'.fields.map TFieldDef.enc), .sl (v.def'.inputs.map TInDef.enc), .sl (v.def'.values.map TEnumDef.enc), .sl (v.def'.roots.map TRoot.enc), .b v.def'.repeat', .sl (v.def'.dirs.map TDir.enc), .i v.kind, .i v.op.kind, .s v.op.name, .sl (v.op.vars.map TVarDef.enc), .sl (v.op.dirs.map TDir.enc), .sl (v.op.sels.map TSel.enc), .s v.frag.name, .s v.frag.on', .sl (v.frag.dirs.map TDir.enc), .sl (v.frag.sels.map TSel.enc), .i v.def'.kind, .b v.def'.ext, .s v.def'.desc, .s v.def'.name, .sl (v.def'.faces.map S1), .sl (v.def'.fields.map TFieldDef.enc), .sl (v.def'.inputs.map TInDef.enc), .sl (v.def'.values.map TEnumDef.enc), .sl (v.def'.roots.map TRoot.enc), .b v.def'.repeat', .sl (v.def'.dirs.map TDir.enc)] = .ret [.b true]) (hw : DC.wt (.sl (vs.map TItem.enc)) ≤ 1048576) : r_laws_eqItemS [.sl (vs.map TItem.enc), .sl (vs.map TItem.enc)] = .ret [.b true] := by
  rw [DC.wt, List.length_map] at hw
  have hl : vs.length ≤ 1048576 := by omega
  rw [eq_laws_eqItemS]
  simp only [E_laws_eqItemS, List.getD_cons_zero, List.getD_cons_succ, DC.bb_b, DC.ii_i, DC.ss_s, DC.ll_sl]
  refine eqS_all (fun i hi => ?_) ?_
  · rw [List.length_map] at hi
    have key := hs vs[i] (List.getElem_mem hi) (by have := wtV_mem (List.mem_map_of_mem (f := TItem.enc) (List.getElem_mem hi)); omega)
    have hc1 : (i : Int) < (vs.length : Int) := by omega
    simp only [E_laws_eqItemSL1, List.getD_cons_zero, List.getD_cons_succ, DC.bb_b, DC.ii_i, DC.ss_s, DC.ll_sl, Int.toNat_natCast, List.length_map, map_getD hi, TItem.enc_eq] at key ⊢
    simp only [key, List.getD_cons_zero, List.getD_cons_succ, DC.bb_b, DC.ii_i, DC.ss_s, DC.ll_sl, Out.bindR_ret]
    simp [hi, hc1, wrap_succ hi (show vs.length ≤ 9223372036854775807 by omega)]
  · simp [E_laws_eqItemSL1]
theorem eqS_Item (vs : List TItem) (hw : DC.wt (.sl (vs.map TItem.enc)) ≤ 1048576) : r_laws_eqItemS [.sl (vs.map TItem.enc), .sl (vs.map TItem.enc)] = .ret [.b true] := eqS_Item' vs (fun v _ => eq_Item v) hw
theorem wsum_Doc (v : TDoc) : wtL (TDoc.enc v) = DC.wt (.sl (v.items.map TItem.enc)) := by
  simp only [TDoc.enc_eq, wtL, DC.wt]
  try omega
theorem sz_Doc (v : TDoc) : okL (TDoc.enc v) → ∀ left : Int, 0 ≤ left → left ≤ 1048576 → r_laws_szDoc [.sl (v.items.map TItem.enc), .i left] = .ret [.i (szR left (wtL (TDoc.enc v)))] := by
  intro ok left h0 h1
  rw [TDoc.enc_eq] at ok
  simp only [okL] at ok
  rw [eq_laws_szDoc]
  simp only [E_laws_szDoc, List.getD_cons_zero, List.getD_cons_succ, DC.bb_b, DC.ii_i, DC.ss_s, DC.ll_sl]
  rw [wsum_Doc]
  rw [szS_Item v.items ok.1 (left) (by omega) (by omega)]
  simp only [Out.bindR_ret, List.getD_cons_zero, List.getD_cons_succ, DC.bb_b, DC.ii_i, DC.ss_s, DC.ll_sl]
  by_cases c0 : left < ((DC.wt (.sl (v.items.map TItem.enc)) : Nat) : Int)
  · rw [szR_lt c0]
    simp only [show (-1 : Int) < 0 by omega, decide_true, if_true]
    try rw [szR_lt (by omega)]
  rw [szR_ge c0]
  have c0' : ¬ left - ((DC.wt (.sl (v.items.map TItem.enc)) : Nat) : Int) < 0 := by omega
  simp only [c0', decide_false, Bool.false_eq_true, if_false]
  first
  | done
  | rw [show szR left (DC.wt (.sl (v.items.map TItem.enc))) = (left - ((DC.wt (.sl (v.items.map TItem.enc)) : Nat) : Int)) from (szR_ge (by omega)).trans (by omega)]
theorem to_Doc (v : TDoc) : wtL (TDoc.enc v) ≤ 1048576 → r_laws_toDoc [.sl (v.items.map TItem.enc)] = .ret (TDoc.enc v) := by
  intro hw
  rw [wsum_Doc] at hw
  rw [eq_laws_toDoc]
  simp only [E_laws_toDoc, List.getD_cons_zero, List.getD_cons_succ, DC.bb_b, DC.ii_i, DC.ss_s, DC.ll_sl]
  rw [toS_Item v.items (by omega)]
  simp only [Out.bindR_ret, List.getD_cons_zero, List.getD_cons_succ, DC.bb_b, DC.ii_i, DC.ss_s, DC.ll_sl]
  rw [TDoc.enc_eq]
theorem eq_Doc (v : TDoc) : wtL (TDoc.enc v) ≤ 1048576 → r_laws_eqDoc [.sl (v.items.map TItem.enc), .sl (v.items.map TItem.enc)] = .ret [.b true] := by
  intro hw
  rw [wsum_Doc] at hw
  rw [eq_laws_eqDoc]
  simp only [E_laws_eqDoc, List.getD_cons_zero, List.getD_cons_succ, DC.bb_b, DC.ii_i, DC.ss_s, DC.ll_sl, bne_self_eq_false, beq_self_eq_true, Bool.not_true, Bool.false_eq_true, if_false]
  rw [eqS_Item v.items (by omega)]
  simp only [Out.bindR_ret, List.getD_cons_zero, List.getD_cons_succ, DC.bb_b, DC.ii_i, DC.ss_s, DC.ll_sl, bne_self_eq_false, beq_self_eq_true, Bool.not_true, Bool.false_eq_true, if_false]
end Go.Proofs.YtljggmbgbnmapaaGreatV
