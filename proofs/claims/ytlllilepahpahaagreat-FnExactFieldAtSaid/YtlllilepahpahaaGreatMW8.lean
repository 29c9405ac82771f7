import Derived.Test.YtlllilepahpahaaGreatMW7
import Derived.Test.YtlllilepahpahaaGreatMW6
/- What the helpers of the laws do (written by a program). -/
namespace Go.Proofs.QV
open Go
set_option linter.unusedVariables false
set_option linter.unusedSimpArgs false
set_option maxRecDepth 100000
theorem szS_String (ns : List (List UInt8)) (ok : (DC.sl (ns.map S1)).ok) (left : Int) (h0 : 0 ≤ left) (h1 : left ≤ 1048576) : r_laws_szStringS [.sl (ns.map S1), .i left] = .ret [.i (szR left (DC.wt (.sl (ns.map S1))))] := by
  rw [DC.ok, List.length_map] at ok
  obtain ⟨hl, ok⟩ := ok
  rw [eq_laws_szStringS]
  simp only [E_laws_szStringS, List.getD_cons_zero, List.getD_cons_succ, DC.bb_b, DC.ii_i, DC.ss_s, DC.ll_sl]
  refine szS_all hl (fun i hi left h0 h1 => ?_) (fun left => ?_) h0 h1
  · have hn := okV_mem ok (S1 ns[i]) (List.mem_map_of_mem (List.getElem_mem hi))
    simp only [S1, okL, DC.ok] at hn
    have hw : IntKind.i64.wrap (left - (ns[i].length : Int)) = left - (ns[i].length : Int) := wrap64 (by omega) (by omega)
    have hc1 : (i : Int) < (ns.length : Int) := by omega
    simp only [E_laws_szStringSL1, List.getD_cons_zero, List.getD_cons_succ, DC.bb_b, DC.ii_i, DC.ss_s, DC.ll_sl, Int.toNat_natCast, List.length_map, map_getD hi, S1, wtL, DC.wt, hw]
    by_cases hc : left < (ns[i].length : Int)
    · simp [hi, hc1, hc, show left - (ns[i].length : Int) < 0 by omega]
    · simp [hi, hc1, hc, show ¬ left - (ns[i].length : Int) < 0 by omega, wrap_succ hi hl]
  · simp [E_laws_szStringSL1]
theorem toS_String (ns : List (List UInt8)) (hl : ns.length ≤ 1048576) : r_laws_toStringS [.sl (ns.map S1)] = .ret [.sl (ns.map S1)] := by
  rw [eq_laws_toStringS]
  simp only [E_laws_toStringS, List.getD_cons_zero, List.getD_cons_succ, DC.bb_b, DC.ii_i, DC.ss_s, DC.ll_sl]
  rw [if_pos ⟨by omega, by rw [List.length_map]; exact lim_of hl, trivial, by omega, by omega, rfl⟩, Int.toNat_natCast, List.length_map, show (0 : Int) = ((0 : Nat) : Int) from rfl, toS_loop hl (fun i hi cur h1 h2 => ?_) (fun cur => ?_)]
  · rfl
  · have hc1 : (i : Int) < (ns.length : Int) := by omega
    simp only [E_laws_toStringSL1, List.getD_cons_zero, List.getD_cons_succ, DC.bb_b, DC.ii_i, DC.ss_s, DC.ll_sl, Int.toNat_natCast, List.length_map, map_getD hi, h1, h2, S1]
    simp [hi, hc1, wrap_succ hi (show ns.length ≤ 9223372036854775807 by omega), setRunD]
  · simp [E_laws_toStringSL1]
theorem eqS_String (ns : List (List UInt8)) (hl : ns.length ≤ 1048576) : r_laws_eqStringS [.sl (ns.map S1), .sl (ns.map S1)] = .ret [.b true] := by
  rw [eq_laws_eqStringS]
  simp only [E_laws_eqStringS, List.getD_cons_zero, List.getD_cons_succ, DC.bb_b, DC.ii_i, DC.ss_s, DC.ll_sl]
  refine eqS_all (fun i hi => ?_) ?_
  · rw [List.length_map] at hi
    have hc1 : (i : Int) < (ns.length : Int) := by omega
    simp only [E_laws_eqStringSL1, List.getD_cons_zero, List.getD_cons_succ, DC.bb_b, DC.ii_i, DC.ss_s, DC.ll_sl, Int.toNat_natCast, List.length_map, map_getD hi, S1]
    simp [hi, hc1, wrap_succ hi (show ns.length ≤ 9223372036854775807 by omega)]
  · simp [E_laws_eqStringSL1]
theorem wsum_Value (v : TValue) : wtL (TValue.enc v) = v.text.length + DC.wt (.sl (v.items.map TValue.enc)) + DC.wt (.sl (v.names.map S1)) := by
  simp only [TValue.enc_eq, wtL, DC.wt]
  try omega
theorem szS_Value' (vs : List TValue) (hs : ∀ v ∈ vs, okL (TValue.enc v) → ∀ left : Int, 0 ≤ left → left ≤ 1048576 → r_laws_szValue [.i v.kind, .s v.text, .sl (v.items.map TValue.enc), .sl (v.names.map S1), .i left] = .ret [.i (szR left (wtL (TValue.enc v)))]) (ok : (DC.sl (vs.map TValue.enc)).ok) (left : Int) (h0 : 0 ≤ left) (h1 : left ≤ 1048576) : r_laws_szValueS [.sl (vs.map TValue.enc), .i left] = .ret [.i (szR left (DC.wt (.sl (vs.map TValue.enc))))] := by
  rw [DC.ok, List.length_map] at ok
  obtain ⟨hl, ok⟩ := ok
  rw [eq_laws_szValueS]
  simp only [E_laws_szValueS, List.getD_cons_zero, List.getD_cons_succ, DC.bb_b, DC.ii_i, DC.ss_s, DC.ll_sl]
  refine szS_all hl (fun i hi left h0 h1 => ?_) (fun left => ?_) h0 h1
  · have key := hs vs[i] (List.getElem_mem hi) (okV_mem ok _ (List.mem_map_of_mem (List.getElem_mem hi))) left h0 h1
    generalize wtL (TValue.enc vs[i]) = w at key ⊢
    have hc1 : (i : Int) < (vs.length : Int) := by omega
    simp only [E_laws_szValueSL1, List.getD_cons_zero, List.getD_cons_succ, DC.bb_b, DC.ii_i, DC.ss_s, DC.ll_sl, Int.toNat_natCast, List.length_map, map_getD hi, TValue.enc_eq, key, Out.bindR_ret]
    by_cases hc : left < (w : Int)
    · simp [hi, hc1, hc, szR_lt hc]
    · simp [hi, hc1, hc, szR_ge hc, show ¬ left - (w : Int) < 0 by omega, wrap_succ hi hl]
  · simp [E_laws_szValueSL1]
theorem sz_Value (v : TValue) : okL (TValue.enc v) → ∀ left : Int, 0 ≤ left → left ≤ 1048576 → r_laws_szValue [.i v.kind, .s v.text, .sl (v.items.map TValue.enc), .sl (v.names.map S1), .i left] = .ret [.i (szR left (wtL (TValue.enc v)))] := by
  induction v using TValue.ind with | h v ih =>
  intro ok left h0 h1
  rw [TValue.enc_eq] at ok
  simp only [okL] at ok
  rw [eq_laws_szValue]
  simp only [E_laws_szValue, List.getD_cons_zero, List.getD_cons_succ, DC.bb_b, DC.ii_i, DC.ss_s, DC.ll_sl]
  rw [wsum_Value]
  have b0 : v.text.length ≤ 9223372036854775807 := by simpa only [DC.ok] using ok.2.1
  rw [show IntKind.i64.wrap (left - (v.text.length : Int)) = left - (v.text.length : Int) from wrap64 (by omega) (by omega)]
  by_cases c0 : left < ((v.text.length : Nat) : Int)
  · have c0' : left - ((v.text.length : Nat) : Int) < 0 := by omega
    simp only [c0', decide_true, if_true]
    try rw [szR_lt (by omega)]
  have c0' : ¬ left - ((v.text.length : Nat) : Int) < 0 := by omega
  simp only [c0', decide_false, Bool.false_eq_true, if_false]
  rw [szS_Value' v.items (fun x hx => ih x hx) ok.2.2.1 ((left - ((v.text.length : Nat) : Int))) (by omega) (by omega)]
  simp only [Out.bindR_ret, List.getD_cons_zero, List.getD_cons_succ, DC.bb_b, DC.ii_i, DC.ss_s, DC.ll_sl]
  by_cases c1 : (left - ((v.text.length : Nat) : Int)) < ((DC.wt (.sl (v.items.map TValue.enc)) : Nat) : Int)
  · rw [szR_lt c1]
    simp only [show (-1 : Int) < 0 by omega, decide_true, if_true]
    try rw [szR_lt (by omega)]
  rw [szR_ge c1]
  have c1' : ¬ (left - ((v.text.length : Nat) : Int)) - ((DC.wt (.sl (v.items.map TValue.enc)) : Nat) : Int) < 0 := by omega
  simp only [c1', decide_false, Bool.false_eq_true, if_false]
  rw [szS_String v.names ok.2.2.2.1 (((left - ((v.text.length : Nat) : Int)) - ((DC.wt (.sl (v.items.map TValue.enc)) : Nat) : Int))) (by omega) (by omega)]
  simp only [Out.bindR_ret, List.getD_cons_zero, List.getD_cons_succ, DC.bb_b, DC.ii_i, DC.ss_s, DC.ll_sl]
  by_cases c2 : ((left - ((v.text.length : Nat) : Int)) - ((DC.wt (.sl (v.items.map TValue.enc)) : Nat) : Int)) < ((DC.wt (.sl (v.names.map S1)) : Nat) : Int)
  · rw [szR_lt c2]
    simp only [show (-1 : Int) < 0 by omega, decide_true, if_true]
    try rw [szR_lt (by omega)]
  rw [szR_ge c2]
  have c2' : ¬ ((left - ((v.text.length : Nat) : Int)) - ((DC.wt (.sl (v.items.map TValue.enc)) : Nat) : Int)) - ((DC.wt (.sl (v.names.map S1)) : Nat) : Int) < 0 := by omega
  simp only [c2', decide_false, Bool.false_eq_true, if_false]
  first
  | done
  | rw [show szR left (v.text.length + DC.wt (.sl (v.items.map TValue.enc)) + DC.wt (.sl (v.names.map S1))) = (((left - ((v.text.length : Nat) : Int)) - ((DC.wt (.sl (v.items.map TValue.enc)) : Nat) : Int)) - ((DC.wt (.sl (v.names.map S1)) : Nat) : Int)) from (szR_ge (by omega)).trans (by omega)]
theorem toS_Value' (vs : List TValue) (hs : ∀ v ∈ vs, wtL (TValue.enc v) ≤ 1048576 → r_laws_toValue [.i v.kind, .s v.text, .sl (v.items.map TValue.enc), .sl (v.names.map S1)] = .ret (TValue.enc v)) (hw : DC.wt (.sl (vs.map TValue.enc)) ≤ 1048576) : r_laws_toValueS [.sl (vs.map TValue.enc)] = .ret [.sl (vs.map TValue.enc)] := by
  rw [DC.wt, List.length_map] at hw
  have hl : vs.length ≤ 1048576 := by omega
  rw [eq_laws_toValueS]
  simp only [E_laws_toValueS, List.getD_cons_zero, List.getD_cons_succ, DC.bb_b, DC.ii_i, DC.ss_s, DC.ll_sl]
  rw [if_pos ⟨by omega, by rw [List.length_map]; exact lim_of hl, trivial, by omega, by omega, rfl⟩, Int.toNat_natCast, List.length_map, show (0 : Int) = ((0 : Nat) : Int) from rfl, toS_loop hl (fun i hi cur h1 h2 => ?_) (fun cur => ?_)]
  · rfl
  · have key := hs vs[i] (List.getElem_mem hi) (by have := wtV_mem (List.mem_map_of_mem (f := TValue.enc) (List.getElem_mem hi)); omega)
    have hc1 : (i : Int) < (vs.length : Int) := by omega
    simp only [E_laws_toValueSL1, List.getD_cons_zero, List.getD_cons_succ, DC.bb_b, DC.ii_i, DC.ss_s, DC.ll_sl, Int.toNat_natCast, List.length_map, map_getD hi, h1, h2, TValue.enc_eq] at key ⊢
    simp only [key, List.getD_cons_zero, List.getD_cons_succ, DC.bb_b, DC.ii_i, DC.ss_s, DC.ll_sl, Out.bindR_ret]
    simp [hi, hc1, wrap_succ hi (show vs.length ≤ 9223372036854775807 by omega), setRunD]
  · simp [E_laws_toValueSL1]
theorem to_Value (v : TValue) : wtL (TValue.enc v) ≤ 1048576 → r_laws_toValue [.i v.kind, .s v.text, .sl (v.items.map TValue.enc), .sl (v.names.map S1)] = .ret (TValue.enc v) := by
  induction v using TValue.ind with | h v ih =>
  intro hw
  rw [wsum_Value] at hw
  rw [eq_laws_toValue]
  simp only [E_laws_toValue, List.getD_cons_zero, List.getD_cons_succ, DC.bb_b, DC.ii_i, DC.ss_s, DC.ll_sl]
  rw [toS_Value' v.items (fun x hx => ih x hx) (by omega)]
  simp only [Out.bindR_ret, List.getD_cons_zero, List.getD_cons_succ, DC.bb_b, DC.ii_i, DC.ss_s, DC.ll_sl]
  rw [toS_String v.names (by have h := hw; simp only [DC.wt, List.length_map] at h; omega)]
  simp only [Out.bindR_ret, List.getD_cons_zero, List.getD_cons_succ, DC.bb_b, DC.ii_i, DC.ss_s, DC.ll_sl]
  rw [TValue.enc_eq]
theorem eqS_Value' (vs : List TValue) (hs : ∀ v ∈ vs, wtL (TValue.enc v) ≤ 1048576 → r_laws_eqValue [.i v.kind, .s v.text, .sl (v.items.map TValue.enc), .sl (v.names.map S1), .i v.kind, .s v.text, .sl (v.items.map TValue.enc), .sl (v.names.map S1)] = .ret [.b true]) (hw : DC.wt (.sl (vs.map TValue.enc)) ≤ 1048576) : r_laws_eqValueS [.sl (vs.map TValue.enc), .sl (vs.map TValue.enc)] = .ret [.b true] := by
  rw [DC.wt, List.length_map] at hw
  have hl : vs.length ≤ 1048576 := by omega
  rw [eq_laws_eqValueS]
  simp only [E_laws_eqValueS, List.getD_cons_zero, List.getD_cons_succ, DC.bb_b, DC.ii_i, DC.ss_s, DC.ll_sl]
  refine eqS_all (fun i hi => ?_) ?_
  · rw [List.length_map] at hi
    have key := hs vs[i] (List.getElem_mem hi) (by have := wtV_mem (List.mem_map_of_mem (f := TValue.enc) (List.getElem_mem hi)); omega)
    have hc1 : (i : Int) < (vs.length : Int) := by omega
    simp only [E_laws_eqValueSL1, List.getD_cons_zero, List.getD_cons_succ, DC.bb_b, DC.ii_i, DC.ss_s, DC.ll_sl, Int.toNat_natCast, List.length_map, map_getD hi, TValue.enc_eq] at key ⊢
    simp only [key, List.getD_cons_zero, List.getD_cons_succ, DC.bb_b, DC.ii_i, DC.ss_s, DC.ll_sl, Out.bindR_ret]
    simp [hi, hc1, wrap_succ hi (show vs.length ≤ 9223372036854775807 by omega)]
  · simp [E_laws_eqValueSL1]
theorem eq_Value (v : TValue) : wtL (TValue.enc v) ≤ 1048576 → r_laws_eqValue [.i v.kind, .s v.text, .sl (v.items.map TValue.enc), .sl (v.names.map S1), .i v.kind, .s v.text, .sl (v.items.map TValue.enc), .sl (v.names.map S1)] = .ret [.b true] := by
  induction v using TValue.ind with | h v ih =>
  intro hw
  rw [wsum_Value] at hw
  rw [eq_laws_eqValue]
  simp only [E_laws_eqValue, List.getD_cons_zero, List.getD_cons_succ, DC.bb_b, DC.ii_i, DC.ss_s, DC.ll_sl, bne_self_eq_false, beq_self_eq_true, Bool.not_true, Bool.false_eq_true, if_false]
  rw [eqS_Value' v.items (fun x hx => ih x hx) (by omega)]
  simp only [Out.bindR_ret, List.getD_cons_zero, List.getD_cons_succ, DC.bb_b, DC.ii_i, DC.ss_s, DC.ll_sl, bne_self_eq_false, beq_self_eq_true, Bool.not_true, Bool.false_eq_true, if_false]
  rw [eqS_String v.names (by have h := hw; simp only [DC.wt, List.length_map] at h; omega)]
  simp only [Out.bindR_ret, List.getD_cons_zero, List.getD_cons_succ, DC.bb_b, DC.ii_i, DC.ss_s, DC.ll_sl, bne_self_eq_false, beq_self_eq_true, Bool.not_true, Bool.false_eq_true, if_false]
theorem wsum_Type (v : TType) : wtL (TType.enc v) = v.name.length + v.wraps.length := by
  simp only [TType.enc_eq, wtL, DC.wt]
  try omega
theorem sz_Type (v : TType) : okL (TType.enc v) → ∀ left : Int, 0 ≤ left → left ≤ 1048576 → r_laws_szType [.s v.name, .s v.wraps, .i left] = .ret [.i (szR left (wtL (TType.enc v)))] := by
  intro ok left h0 h1
  rw [TType.enc_eq] at ok
  simp only [okL] at ok
  rw [eq_laws_szType]
  simp only [E_laws_szType, List.getD_cons_zero, List.getD_cons_succ, DC.bb_b, DC.ii_i, DC.ss_s, DC.ll_sl]
  rw [wsum_Type]
  have b0 : v.name.length ≤ 9223372036854775807 := by simpa only [DC.ok] using ok.1
  have b1 : v.wraps.length ≤ 9223372036854775807 := by simpa only [DC.ok] using ok.2.1
  rw [show IntKind.i64.wrap (left - (v.name.length : Int)) = left - (v.name.length : Int) from wrap64 (by omega) (by omega)]
  by_cases c0 : left < ((v.name.length : Nat) : Int)
  · have c0' : left - ((v.name.length : Nat) : Int) < 0 := by omega
    simp only [c0', decide_true, if_true]
    try rw [szR_lt (by omega)]
  have c0' : ¬ left - ((v.name.length : Nat) : Int) < 0 := by omega
  simp only [c0', decide_false, Bool.false_eq_true, if_false]
  rw [show IntKind.i64.wrap ((left - ((v.name.length : Nat) : Int)) - (v.wraps.length : Int)) = (left - ((v.name.length : Nat) : Int)) - (v.wraps.length : Int) from wrap64 (by omega) (by omega)]
  by_cases c1 : (left - ((v.name.length : Nat) : Int)) < ((v.wraps.length : Nat) : Int)
  · have c1' : (left - ((v.name.length : Nat) : Int)) - ((v.wraps.length : Nat) : Int) < 0 := by omega
    simp only [c1', decide_true, if_true]
    try rw [szR_lt (by omega)]
  have c1' : ¬ (left - ((v.name.length : Nat) : Int)) - ((v.wraps.length : Nat) : Int) < 0 := by omega
  simp only [c1', decide_false, Bool.false_eq_true, if_false]
  first
  | done
  | rw [show szR left (v.name.length + v.wraps.length) = ((left - ((v.name.length : Nat) : Int)) - ((v.wraps.length : Nat) : Int)) from (szR_ge (by omega)).trans (by omega)]
theorem to_Type (v : TType) : wtL (TType.enc v) ≤ 1048576 → r_laws_toType [.s v.name, .s v.wraps] = .ret (TType.enc v) := by
  intro hw
  rw [wsum_Type] at hw
  rw [eq_laws_toType]
  simp only [E_laws_toType, List.getD_cons_zero, List.getD_cons_succ, DC.bb_b, DC.ii_i, DC.ss_s, DC.ll_sl]
  rw [TType.enc_eq]
theorem eq_Type (v : TType) : wtL (TType.enc v) ≤ 1048576 → r_laws_eqType [.s v.name, .s v.wraps, .s v.name, .s v.wraps] = .ret [.b true] := by
  intro hw
  rw [wsum_Type] at hw
  rw [eq_laws_eqType]
  simp only [E_laws_eqType, List.getD_cons_zero, List.getD_cons_succ, DC.bb_b, DC.ii_i, DC.ss_s, DC.ll_sl, bne_self_eq_false, beq_self_eq_true, Bool.not_true, Bool.false_eq_true, if_false]
theorem wsum_Arg (v : TArg) : wtL (TArg.enc v) = v.name.length + wtL (TValue.enc v.value) := by
  simp only [TArg.enc_eq, wtL, DC.wt, TValue.enc_eq]
  try omega
theorem sz_Arg (v : TArg) : okL (TArg.enc v) → ∀ left : Int, 0 ≤ left → left ≤ 1048576 → r_laws_szArg [.s v.name, .i v.value.kind, .s v.value.text, .sl (v.value.items.map TValue.enc), .sl (v.value.names.map S1), .i left] = .ret [.i (szR left (wtL (TArg.enc v)))] := by
  intro ok left h0 h1
  rw [TArg.enc_eq] at ok
  simp only [okL] at ok
  rw [eq_laws_szArg]
  simp only [E_laws_szArg, List.getD_cons_zero, List.getD_cons_succ, DC.bb_b, DC.ii_i, DC.ss_s, DC.ll_sl]
  rw [wsum_Arg]
  have b0 : v.name.length ≤ 9223372036854775807 := by simpa only [DC.ok] using ok.1
  rw [show IntKind.i64.wrap (left - (v.name.length : Int)) = left - (v.name.length : Int) from wrap64 (by omega) (by omega)]
  by_cases c0 : left < ((v.name.length : Nat) : Int)
  · have c0' : left - ((v.name.length : Nat) : Int) < 0 := by omega
    simp only [c0', decide_true, if_true]
    try rw [szR_lt (by omega)]
  have c0' : ¬ left - ((v.name.length : Nat) : Int) < 0 := by omega
  simp only [c0', decide_false, Bool.false_eq_true, if_false]
  rw [sz_Value v.value (by rw [TValue.enc_eq]; simp only [okL]; exact ⟨ok.2.1, ok.2.2.1, ok.2.2.2.1, ok.2.2.2.2.1, trivial⟩) ((left - ((v.name.length : Nat) : Int))) (by omega) (by omega)]
  simp only [Out.bindR_ret, List.getD_cons_zero, List.getD_cons_succ, DC.bb_b, DC.ii_i, DC.ss_s, DC.ll_sl]
  by_cases c1 : (left - ((v.name.length : Nat) : Int)) < ((wtL (TValue.enc v.value) : Nat) : Int)
  · rw [szR_lt c1]
    simp only [show (-1 : Int) < 0 by omega, decide_true, if_true]
    try rw [szR_lt (by omega)]
  rw [szR_ge c1]
  have c1' : ¬ (left - ((v.name.length : Nat) : Int)) - ((wtL (TValue.enc v.value) : Nat) : Int) < 0 := by omega
  simp only [c1', decide_false, Bool.false_eq_true, if_false]
  first
  | done
  | rw [show szR left (v.name.length + wtL (TValue.enc v.value)) = ((left - ((v.name.length : Nat) : Int)) - ((wtL (TValue.enc v.value) : Nat) : Int)) from (szR_ge (by omega)).trans (by omega)]
theorem szS_Arg' (vs : List TArg) (hs : ∀ v ∈ vs, okL (TArg.enc v) → ∀ left : Int, 0 ≤ left → left ≤ 1048576 → r_laws_szArg [.s v.name, .i v.value.kind, .s v.value.text, .sl (v.value.items.map TValue.enc), .sl (v.value.names.map S1), .i left] = .ret [.i (szR left (wtL (TArg.enc v)))]) (ok : (DC.sl (vs.map TArg.enc)).ok) (left : Int) (h0 : 0 ≤ left) (h1 : left ≤ 1048576) : r_laws_szArgS [.sl (vs.map TArg.enc), .i left] = .ret [.i (szR left (DC.wt (.sl (vs.map TArg.enc))))] := by
  rw [DC.ok, List.length_map] at ok
  obtain ⟨hl, ok⟩ := ok
  rw [eq_laws_szArgS]
  simp only [E_laws_szArgS, List.getD_cons_zero, List.getD_cons_succ, DC.bb_b, DC.ii_i, DC.ss_s, DC.ll_sl]
  refine szS_all hl (fun i hi left h0 h1 => ?_) (fun left => ?_) h0 h1
  · have key := hs vs[i] (List.getElem_mem hi) (okV_mem ok _ (List.mem_map_of_mem (List.getElem_mem hi))) left h0 h1
    generalize wtL (TArg.enc vs[i]) = w at key ⊢
    have hc1 : (i : Int) < (vs.length : Int) := by omega
    simp only [E_laws_szArgSL1, List.getD_cons_zero, List.getD_cons_succ, DC.bb_b, DC.ii_i, DC.ss_s, DC.ll_sl, Int.toNat_natCast, List.length_map, map_getD hi, TArg.enc_eq, key, Out.bindR_ret]
    by_cases hc : left < (w : Int)
    · simp [hi, hc1, hc, szR_lt hc]
    · simp [hi, hc1, hc, szR_ge hc, show ¬ left - (w : Int) < 0 by omega, wrap_succ hi hl]
  · simp [E_laws_szArgSL1]
theorem szS_Arg (vs : List TArg) (ok : (DC.sl (vs.map TArg.enc)).ok) (left : Int) (h0 : 0 ≤ left) (h1 : left ≤ 1048576) : r_laws_szArgS [.sl (vs.map TArg.enc), .i left] = .ret [.i (szR left (DC.wt (.sl (vs.map TArg.enc))))] := szS_Arg' vs (fun v _ => sz_Arg v) ok left h0 h1
theorem to_Arg (v : TArg) : wtL (TArg.enc v) ≤ 1048576 → r_laws_toArg [.s v.name, .i v.value.kind, .s v.value.text, .sl (v.value.items.map TValue.enc), .sl (v.value.names.map S1)] = .ret (TArg.enc v) := by
  intro hw
  rw [wsum_Arg] at hw
  rw [eq_laws_toArg]
  simp only [E_laws_toArg, List.getD_cons_zero, List.getD_cons_succ, DC.bb_b, DC.ii_i, DC.ss_s, DC.ll_sl]
  rw [to_Value v.value (by omega)]
  simp only [Out.bindR_ret, TValue.enc_eq, List.getD_cons_zero, List.getD_cons_succ, DC.bb_b, DC.ii_i, DC.ss_s, DC.ll_sl]
  rw [TArg.enc_eq]
theorem toS_Arg' (vs : List TArg) (hs : ∀ v ∈ vs, wtL (TArg.enc v) ≤ 1048576 → r_laws_toArg [.s v.name, .i v.value.kind, .s v.value.text, .sl (v.value.items.map TValue.enc), .sl (v.value.names.map S1)] = .ret (TArg.enc v)) (hw : DC.wt (.sl (vs.map TArg.enc)) ≤ 1048576) : r_laws_toArgS [.sl (vs.map TArg.enc)] = .ret [.sl (vs.map TArg.enc)] := by
  rw [DC.wt, List.length_map] at hw
  have hl : vs.length ≤ 1048576 := by omega
  rw [eq_laws_toArgS]
  simp only [E_laws_toArgS, List.getD_cons_zero, List.getD_cons_succ, DC.bb_b, DC.ii_i, DC.ss_s, DC.ll_sl]
  rw [if_pos ⟨by omega, by rw [List.length_map]; exact lim_of hl, trivial, by omega, by omega, rfl⟩, Int.toNat_natCast, List.length_map, show (0 : Int) = ((0 : Nat) : Int) from rfl, toS_loop hl (fun i hi cur h1 h2 => ?_) (fun cur => ?_)]
  · rfl
  · have key := hs vs[i] (List.getElem_mem hi) (by have := wtV_mem (List.mem_map_of_mem (f := TArg.enc) (List.getElem_mem hi)); omega)
    have hc1 : (i : Int) < (vs.length : Int) := by omega
    simp only [E_laws_toArgSL1, List.getD_cons_zero, List.getD_cons_succ, DC.bb_b, DC.ii_i, DC.ss_s, DC.ll_sl, Int.toNat_natCast, List.length_map, map_getD hi, h1, h2, TArg.enc_eq] at key ⊢
    simp only [key, List.getD_cons_zero, List.getD_cons_succ, DC.bb_b, DC.ii_i, DC.ss_s, DC.ll_sl, Out.bindR_ret]
    simp [hi, hc1, wrap_succ hi (show vs.length ≤ 9223372036854775807 by omega), setRunD]
  · simp [E_laws_toArgSL1]
theorem toS_Arg (vs : List TArg) (hw : DC.wt (.sl (vs.map TArg.enc)) ≤ 1048576) : r_laws_toArgS [.sl (vs.map TArg.enc)] = .ret [.sl (vs.map TArg.enc)] := toS_Arg' vs (fun v _ => to_Arg v) hw
theorem eq_Arg (v : TArg) : wtL (TArg.enc v) ≤ 1048576 → r_laws_eqArg [.s v.name, .i v.value.kind, .s v.value.text, .sl (v.value.items.map TValue.enc), .sl (v.value.names.map S1), .s v.name, .i v.value.kind, .s v.value.text, .sl (v.value.items.map TValue.enc), .sl (v.value.names.map S1)] = .ret [.b true] := by
  intro hw
  rw [wsum_Arg] at hw
  rw [eq_laws_eqArg]
  simp only [E_laws_eqArg, List.getD_cons_zero, List.getD_cons_succ, DC.bb_b, DC.ii_i, DC.ss_s, DC.ll_sl, bne_self_eq_false, beq_self_eq_true, Bool.not_true, Bool.false_eq_true, if_false]
  rw [eq_Value v.value (by omega)]
  simp only [Out.bindR_ret, List.getD_cons_zero, List.getD_cons_succ, DC.bb_b, DC.ii_i, DC.ss_s, DC.ll_sl, bne_self_eq_false, beq_self_eq_true, Bool.not_true, Bool.false_eq_true, if_false]
theorem eqS_Arg' (vs : List TArg) (hs : ∀ v ∈ vs, wtL (TArg.enc v) ≤ 1048576 → r_laws_eqArg [.s v.name, .i v.value.kind, .s v.value.text, .sl (v.value.items.map TValue.enc), .sl (v.value.names.map S1), .s v.name, .i v.value.kind, .s v.value.text, .sl (v.value.items.map TValue.enc), .sl (v.value.names.map S1)] = .ret [.b true]) (hw : DC.wt (.sl (vs.map TArg.enc)) ≤ 1048576) : r_laws_eqArgS [.sl (vs.map TArg.enc), .sl (vs.map TArg.enc)] = .ret [.b true] := by
  rw [DC.wt, List.length_map] at hw
  have hl : vs.length ≤ 1048576 := by omega
  rw [eq_laws_eqArgS]
  simp only [E_laws_eqArgS, List.getD_cons_zero, List.getD_cons_succ, DC.bb_b, DC.ii_i, DC.ss_s, DC.ll_sl]
  refine eqS_all (fun i hi => ?_) ?_
  · rw [List.length_map] at hi
    have key := hs vs[i] (List.getElem_mem hi) (by have := wtV_mem (List.mem_map_of_mem (f := TArg.enc) (List.getElem_mem hi)); omega)
    have hc1 : (i : Int) < (vs.length : Int) := by omega
    simp only [E_laws_eqArgSL1, List.getD_cons_zero, List.getD_cons_succ, DC.bb_b, DC.ii_i, DC.ss_s, DC.ll_sl, Int.toNat_natCast, List.length_map, map_getD hi, TArg.enc_eq] at key ⊢
    simp only [key, List.getD_cons_zero, List.getD_cons_succ, DC.bb_b, DC.ii_i, DC.ss_s, DC.ll_sl, Out.bindR_ret]
    simp [hi, hc1, wrap_succ hi (show vs.length ≤ 9223372036854775807 by omega)]
  · simp [E_laws_eqArgSL1]
theorem eqS_Arg (vs : List TArg) (hw : DC.wt (.sl (vs.map TArg.enc)) ≤ 1048576) : r_laws_eqArgS [.sl (vs.map TArg.enc), .sl (vs.map TArg.enc)] = .ret [.b true] := eqS_Arg' vs (fun v _ => eq_Arg v) hw
theorem wsum_Dir (v : TDir) : wtL (TDir.enc v) = v.name.length + DC.wt (.sl (v.args.map TArg.enc)) := by
  simp only [TDir.enc_eq, wtL, DC.wt]
  try omega
theorem sz_Dir (v : TDir) : okL (TDir.enc v) → ∀ left : Int, 0 ≤ left → left ≤ 1048576 → r_laws_szDir [.s v.name, .sl (v.args.map TArg.enc), .i left] = .ret [.i (szR left (wtL (TDir.enc v)))] := by
  intro ok left h0 h1
  rw [TDir.enc_eq] at ok
  simp only [okL] at ok
  rw [eq_laws_szDir]
  simp only [E_laws_szDir, List.getD_cons_zero, List.getD_cons_succ, DC.bb_b, DC.ii_i, DC.ss_s, DC.ll_sl]
  rw [wsum_Dir]
  have b0 : v.name.length ≤ 9223372036854775807 := by simpa only [DC.ok] using ok.1
  rw [show IntKind.i64.wrap (left - (v.name.length : Int)) = left - (v.name.length : Int) from wrap64 (by omega) (by omega)]
  by_cases c0 : left < ((v.name.length : Nat) : Int)
  · have c0' : left - ((v.name.length : Nat) : Int) < 0 := by omega
    simp only [c0', decide_true, if_true]
    try rw [szR_lt (by omega)]
  have c0' : ¬ left - ((v.name.length : Nat) : Int) < 0 := by omega
  simp only [c0', decide_false, Bool.false_eq_true, if_false]
  rw [szS_Arg v.args ok.2.1 ((left - ((v.name.length : Nat) : Int))) (by omega) (by omega)]
  simp only [Out.bindR_ret, List.getD_cons_zero, List.getD_cons_succ, DC.bb_b, DC.ii_i, DC.ss_s, DC.ll_sl]
  by_cases c1 : (left - ((v.name.length : Nat) : Int)) < ((DC.wt (.sl (v.args.map TArg.enc)) : Nat) : Int)
  · rw [szR_lt c1]
    simp only [show (-1 : Int) < 0 by omega, decide_true, if_true]
    try rw [szR_lt (by omega)]
  rw [szR_ge c1]
  have c1' : ¬ (left - ((v.name.length : Nat) : Int)) - ((DC.wt (.sl (v.args.map TArg.enc)) : Nat) : Int) < 0 := by omega
  simp only [c1', decide_false, Bool.false_eq_true, if_false]
  first
  | done
  | rw [show szR left (v.name.length + DC.wt (.sl (v.args.map TArg.enc))) = ((left - ((v.name.length : Nat) : Int)) - ((DC.wt (.sl (v.args.map TArg.enc)) : Nat) : Int)) from (szR_ge (by omega)).trans (by omega)]
theorem szS_Dir' (vs : List TDir) (hs : ∀ v ∈ vs, okL (TDir.enc v) → ∀ left : Int, 0 ≤ left → left ≤ 1048576 → r_laws_szDir [.s v.name, .sl (v.args.map TArg.enc), .i left] = .ret [.i (szR left (wtL (TDir.enc v)))]) (ok : (DC.sl (vs.map TDir.enc)).ok) (left : Int) (h0 : 0 ≤ left) (h1 : left ≤ 1048576) : r_laws_szDirS [.sl (vs.map TDir.enc), .i left] = .ret [.i (szR left (DC.wt (.sl (vs.map TDir.enc))))] := by
  rw [DC.ok, List.length_map] at ok
  obtain ⟨hl, ok⟩ := ok
  rw [eq_laws_szDirS]
  simp only [E_laws_szDirS, List.getD_cons_zero, List.getD_cons_succ, DC.bb_b, DC.ii_i, DC.ss_s, DC.ll_sl]
  refine szS_all hl (fun i hi left h0 h1 => ?_) (fun left => ?_) h0 h1
  · have key := hs vs[i] (List.getElem_mem hi) (okV_mem ok _ (List.mem_map_of_mem (List.getElem_mem hi))) left h0 h1
    generalize wtL (TDir.enc vs[i]) = w at key ⊢
    have hc1 : (i : Int) < (vs.length : Int) := by omega
    simp only [E_laws_szDirSL1, List.getD_cons_zero, List.getD_cons_succ, DC.bb_b, DC.ii_i, DC.ss_s, DC.ll_sl, Int.toNat_natCast, List.length_map, map_getD hi, TDir.enc_eq, key, Out.bindR_ret]
    by_cases hc : left < (w : Int)
    · simp [hi, hc1, hc, szR_lt hc]
    · simp [hi, hc1, hc, szR_ge hc, show ¬ left - (w : Int) < 0 by omega, wrap_succ hi hl]
  · simp [E_laws_szDirSL1]
theorem szS_Dir (vs : List TDir) (ok : (DC.sl (vs.map TDir.enc)).ok) (left : Int) (h0 : 0 ≤ left) (h1 : left ≤ 1048576) : r_laws_szDirS [.sl (vs.map TDir.enc), .i left] = .ret [.i (szR left (DC.wt (.sl (vs.map TDir.enc))))] := szS_Dir' vs (fun v _ => sz_Dir v) ok left h0 h1
theorem to_Dir (v : TDir) : wtL (TDir.enc v) ≤ 1048576 → r_laws_toDir [.s v.name, .sl (v.args.map TArg.enc)] = .ret (TDir.enc v) := by
  intro hw
  rw [wsum_Dir] at hw
  rw [eq_laws_toDir]
  simp only [E_laws_toDir, List.getD_cons_zero, List.getD_cons_succ, DC.bb_b, DC.ii_i, DC.ss_s, DC.ll_sl]
  rw [toS_Arg v.args (by omega)]
  simp only [Out.bindR_ret, List.getD_cons_zero, List.getD_cons_succ, DC.bb_b, DC.ii_i, DC.ss_s, DC.ll_sl]
  rw [TDir.enc_eq]
theorem toS_Dir' (vs : List TDir) (hs : ∀ v ∈ vs, wtL (TDir.enc v) ≤ 1048576 → r_laws_toDir [.s v.name, .sl (v.args.map TArg.enc)] = .ret (TDir.enc v)) (hw : DC.wt (.sl (vs.map TDir.enc)) ≤ 1048576) : r_laws_toDirS [.sl (vs.map TDir.enc)] = .ret [.sl (vs.map TDir.enc)] := by
  rw [DC.wt, List.length_map] at hw
  have hl : vs.length ≤ 1048576 := by omega
  rw [eq_laws_toDirS]
  simp only [E_laws_toDirS, List.getD_cons_zero, List.getD_cons_succ, DC.bb_b, DC.ii_i, DC.ss_s, DC.ll_sl]
  rw [if_pos ⟨by omega, by rw [List.length_map]; exact lim_of hl, trivial, by omega, by omega, rfl⟩, Int.toNat_natCast, List.length_map, show (0 : Int) = ((0 : Nat) : Int) from rfl, toS_loop hl (fun i hi cur h1 h2 => ?_) (fun cur => ?_)]
  · rfl
  · have key := hs vs[i] (List.getElem_mem hi) (by have := wtV_mem (List.mem_map_of_mem (f := TDir.enc) (List.getElem_mem hi)); omega)
    have hc1 : (i : Int) < (vs.length : Int) := by omega
    simp only [E_laws_toDirSL1, List.getD_cons_zero, List.getD_cons_succ, DC.bb_b, DC.ii_i, DC.ss_s, DC.ll_sl, Int.toNat_natCast, List.length_map, map_getD hi, h1, h2, TDir.enc_eq] at key ⊢
    simp only [key, List.getD_cons_zero, List.getD_cons_succ, DC.bb_b, DC.ii_i, DC.ss_s, DC.ll_sl, Out.bindR_ret]
    simp [hi, hc1, wrap_succ hi (show vs.length ≤ 9223372036854775807 by omega), setRunD]
  · simp [E_laws_toDirSL1]
theorem toS_Dir (vs : List TDir) (hw : DC.wt (.sl (vs.map TDir.enc)) ≤ 1048576) : r_laws_toDirS [.sl (vs.map TDir.enc)] = .ret [.sl (vs.map TDir.enc)] := toS_Dir' vs (fun v _ => to_Dir v) hw
theorem eq_Dir (v : TDir) : wtL (TDir.enc v) ≤ 1048576 → r_laws_eqDir [.s v.name, .sl (v.args.map TArg.enc), .s v.name, .sl (v.args.map TArg.enc)] = .ret [.b true] := by
  intro hw
  rw [wsum_Dir] at hw
  rw [eq_laws_eqDir]
  simp only [E_laws_eqDir, List.getD_cons_zero, List.getD_cons_succ, DC.bb_b, DC.ii_i, DC.ss_s, DC.ll_sl, bne_self_eq_false, beq_self_eq_true, Bool.not_true, Bool.false_eq_true, if_false]
  rw [eqS_Arg v.args (by omega)]
  simp only [Out.bindR_ret, List.getD_cons_zero, List.getD_cons_succ, DC.bb_b, DC.ii_i, DC.ss_s, DC.ll_sl, bne_self_eq_false, beq_self_eq_true, Bool.not_true, Bool.false_eq_true, if_false]
theorem eqS_Dir' (vs : List TDir) (hs : ∀ v ∈ vs, wtL (TDir.enc v) ≤ 1048576 → r_laws_eqDir [.s v.name, .sl (v.args.map TArg.enc), .s v.name, .sl (v.args.map TArg.enc)] = .ret [.b true]) (hw : DC.wt (.sl (vs.map TDir.enc)) ≤ 1048576) : r_laws_eqDirS [.sl (vs.map TDir.enc), .sl (vs.map TDir.enc)] = .ret [.b true] := by
  rw [DC.wt, List.length_map] at hw
  have hl : vs.length ≤ 1048576 := by omega
  rw [eq_laws_eqDirS]
  simp only [E_laws_eqDirS, List.getD_cons_zero, List.getD_cons_succ, DC.bb_b, DC.ii_i, DC.ss_s, DC.ll_sl]
  refine eqS_all (fun i hi => ?_) ?_
  · rw [List.length_map] at hi
    have key := hs vs[i] (List.getElem_mem hi) (by have := wtV_mem (List.mem_map_of_mem (f := TDir.enc) (List.getElem_mem hi)); omega)
    have hc1 : (i : Int) < (vs.length : Int) := by omega
    simp only [E_laws_eqDirSL1, List.getD_cons_zero, List.getD_cons_succ, DC.bb_b, DC.ii_i, DC.ss_s, DC.ll_sl, Int.toNat_natCast, List.length_map, map_getD hi, TDir.enc_eq] at key ⊢
    simp only [key, List.getD_cons_zero, List.getD_cons_succ, DC.bb_b, DC.ii_i, DC.ss_s, DC.ll_sl, Out.bindR_ret]
    simp [hi, hc1, wrap_succ hi (show vs.length ≤ 9223372036854775807 by omega)]
  · simp [E_laws_eqDirSL1]
theorem eqS_Dir (vs : List TDir) (hw : DC.wt (.sl (vs.map TDir.enc)) ≤ 1048576) : r_laws_eqDirS [.sl (vs.map TDir.enc), .sl (vs.map TDir.enc)] = .ret [.b true] := eqS_Dir' vs (fun v _ => eq_Dir v) hw
theorem wsum_InDef (v : TInDef) : wtL (TInDef.enc v) = v.name.length + v.desc.length + wtL (TType.enc v.type') + wtL (TValue.enc v.default') + DC.wt (.sl (v.dirs.map TDir.enc)) := by
  simp only [TInDef.enc_eq, wtL, DC.wt, TType.enc_eq, TValue.enc_eq]
  try omega
theorem sz_InDef (v : TInDef) : okL (TInDef.enc v) → ∀ left : Int, 0 ≤ left → left ≤ 1048576 → r_laws_szInDef [.s v.name, .s v.desc, .s v.type'.name, .s v.type'.wraps, .b v.has', .i v.default'.kind, .s v.default'.text, .sl (v.default'.items.map TValue.enc), .sl (v.default'.names.map S1), .sl (v.dirs.map TDir.enc), .i left] = .ret [.i (szR left (wtL (TInDef.enc v)))] := by
  intro ok left h0 h1
  rw [TInDef.enc_eq] at ok
  simp only [okL] at ok
  rw [eq_laws_szInDef]
  simp only [E_laws_szInDef, List.getD_cons_zero, List.getD_cons_succ, DC.bb_b, DC.ii_i, DC.ss_s, DC.ll_sl]
  rw [wsum_InDef]
  have b0 : v.name.length ≤ 9223372036854775807 := by simpa only [DC.ok] using ok.1
  have b1 : v.desc.length ≤ 9223372036854775807 := by simpa only [DC.ok] using ok.2.1
  rw [show IntKind.i64.wrap (left - (v.name.length : Int)) = left - (v.name.length : Int) from wrap64 (by omega) (by omega)]
  by_cases c0 : left < ((v.name.length : Nat) : Int)
  · have c0' : left - ((v.name.length : Nat) : Int) < 0 := by omega
    simp only [c0', decide_true, if_true]
    try rw [szR_lt (by omega)]
  have c0' : ¬ left - ((v.name.length : Nat) : Int) < 0 := by omega
  simp only [c0', decide_false, Bool.false_eq_true, if_false]
  rw [show IntKind.i64.wrap ((left - ((v.name.length : Nat) : Int)) - (v.desc.length : Int)) = (left - ((v.name.length : Nat) : Int)) - (v.desc.length : Int) from wrap64 (by omega) (by omega)]
  by_cases c1 : (left - ((v.name.length : Nat) : Int)) < ((v.desc.length : Nat) : Int)
  · have c1' : (left - ((v.name.length : Nat) : Int)) - ((v.desc.length : Nat) : Int) < 0 := by omega
    simp only [c1', decide_true, if_true]
    try rw [szR_lt (by omega)]
  have c1' : ¬ (left - ((v.name.length : Nat) : Int)) - ((v.desc.length : Nat) : Int) < 0 := by omega
  simp only [c1', decide_false, Bool.false_eq_true, if_false]
  rw [sz_Type v.type' (by rw [TType.enc_eq]; simp only [okL]; exact ⟨ok.2.2.1, ok.2.2.2.1, trivial⟩) (((left - ((v.name.length : Nat) : Int)) - ((v.desc.length : Nat) : Int))) (by omega) (by omega)]
  simp only [Out.bindR_ret, List.getD_cons_zero, List.getD_cons_succ, DC.bb_b, DC.ii_i, DC.ss_s, DC.ll_sl]
  by_cases c2 : ((left - ((v.name.length : Nat) : Int)) - ((v.desc.length : Nat) : Int)) < ((wtL (TType.enc v.type') : Nat) : Int)
  · rw [szR_lt c2]
    simp only [show (-1 : Int) < 0 by omega, decide_true, if_true]
    try rw [szR_lt (by omega)]
  rw [szR_ge c2]
  have c2' : ¬ ((left - ((v.name.length : Nat) : Int)) - ((v.desc.length : Nat) : Int)) - ((wtL (TType.enc v.type') : Nat) : Int) < 0 := by omega
  simp only [c2', decide_false, Bool.false_eq_true, if_false]
  rw [sz_Value v.default' (by rw [TValue.enc_eq]; simp only [okL]; exact ⟨ok.2.2.2.2.2.1, ok.2.2.2.2.2.2.1, ok.2.2.2.2.2.2.2.1, ok.2.2.2.2.2.2.2.2.1, trivial⟩) ((((left - ((v.name.length : Nat) : Int)) - ((v.desc.length : Nat) : Int)) - ((wtL (TType.enc v.type') : Nat) : Int))) (by omega) (by omega)]
  simp only [Out.bindR_ret, List.getD_cons_zero, List.getD_cons_succ, DC.bb_b, DC.ii_i, DC.ss_s, DC.ll_sl]
  by_cases c3 : (((left - ((v.name.length : Nat) : Int)) - ((v.desc.length : Nat) : Int)) - ((wtL (TType.enc v.type') : Nat) : Int)) < ((wtL (TValue.enc v.default') : Nat) : Int)
  · rw [szR_lt c3]
    simp only [show (-1 : Int) < 0 by omega, decide_true, if_true]
    try rw [szR_lt (by omega)]
  rw [szR_ge c3]
  have c3' : ¬ (((left - ((v.name.length : Nat) : Int)) - ((v.desc.length : Nat) : Int)) - ((wtL (TType.enc v.type') : Nat) : Int)) - ((wtL (TValue.enc v.default') : Nat) : Int) < 0 := by omega
  simp only [c3', decide_false, Bool.false_eq_true, if_false]
  rw [szS_Dir v.dirs ok.2.2.2.2.2.2.2.2.2.1 (((((left - ((v.name.length : Nat) : Int)) - ((v.desc.length : Nat) : Int)) - ((wtL (TType.enc v.type') : Nat) : Int)) - ((wtL (TValue.enc v.default') : Nat) : Int))) (by omega) (by omega)]
  simp only [Out.bindR_ret, List.getD_cons_zero, List.getD_cons_succ, DC.bb_b, DC.ii_i, DC.ss_s, DC.ll_sl]
  by_cases c4 : ((((left - ((v.name.length : Nat) : Int)) - ((v.desc.length : Nat) : Int)) - ((wtL (TType.enc v.type') : Nat) : Int)) - ((wtL (TValue.enc v.default') : Nat) : Int)) < ((DC.wt (.sl (v.dirs.map TDir.enc)) : Nat) : Int)
  · rw [szR_lt c4]
    simp only [show (-1 : Int) < 0 by omega, decide_true, if_true]
    try rw [szR_lt (by omega)]
  rw [szR_ge c4]
  have c4' : ¬ ((((left - ((v.name.length : Nat) : Int)) - ((v.desc.length : Nat) : Int)) - ((wtL (TType.enc v.type') : Nat) : Int)) - ((wtL (TValue.enc v.default') : Nat) : Int)) - ((DC.wt (.sl (v.dirs.map TDir.enc)) : Nat) : Int) < 0 := by omega
  simp only [c4', decide_false, Bool.false_eq_true, if_false]
  first
  | done
  | rw [show szR left (v.name.length + v.desc.length + wtL (TType.enc v.type') + wtL (TValue.enc v.default') + DC.wt (.sl (v.dirs.map TDir.enc))) = (((((left - ((v.name.length : Nat) : Int)) - ((v.desc.length : Nat) : Int)) - ((wtL (TType.enc v.type') : Nat) : Int)) - ((wtL (TValue.enc v.default') : Nat) : Int)) - ((DC.wt (.sl (v.dirs.map TDir.enc)) : Nat) : Int)) from (szR_ge (by omega)).trans (by omega)]
theorem szS_InDef' (vs : List TInDef) (hs : ∀ v ∈ vs, okL (TInDef.enc v) → ∀ left : Int, 0 ≤ left → left ≤ 1048576 → r_laws_szInDef [.s v.name, .s v.desc, .s v.type'.name, .s v.type'.wraps, .b v.has', .i v.default'.kind, .s v.default'.text, .sl (v.default'.items.map TValue.enc), .sl (v.default'.names.map S1), .sl (v.dirs.map TDir.enc), .i left] = .ret [.i (szR left (wtL (TInDef.enc v)))]) (ok : (DC.sl (vs.map TInDef.enc)).ok) (left : Int) (h0 : 0 ≤ left) (h1 : left ≤ 1048576) : r_laws_szInDefS [.sl (vs.map TInDef.enc), .i left] = .ret [.i (szR left (DC.wt (.sl (vs.map TInDef.enc))))] := by
  rw [DC.ok, List.length_map] at ok
  obtain ⟨hl, ok⟩ := ok
  rw [eq_laws_szInDefS]
  simp only [E_laws_szInDefS, List.getD_cons_zero, List.getD_cons_succ, DC.bb_b, DC.ii_i, DC.ss_s, DC.ll_sl]
  refine szS_all hl (fun i hi left h0 h1 => ?_) (fun left => ?_) h0 h1
  · have key := hs vs[i] (List.getElem_mem hi) (okV_mem ok _ (List.mem_map_of_mem (List.getElem_mem hi))) left h0 h1
    generalize wtL (TInDef.enc vs[i]) = w at key ⊢
    have hc1 : (i : Int) < (vs.length : Int) := by omega
    simp only [E_laws_szInDefSL1, List.getD_cons_zero, List.getD_cons_succ, DC.bb_b, DC.ii_i, DC.ss_s, DC.ll_sl, Int.toNat_natCast, List.length_map, map_getD hi, TInDef.enc_eq, key, Out.bindR_ret]
    by_cases hc : left < (w : Int)
    · simp [hi, hc1, hc, szR_lt hc]
    · simp [hi, hc1, hc, szR_ge hc, show ¬ left - (w : Int) < 0 by omega, wrap_succ hi hl]
  · simp [E_laws_szInDefSL1]
theorem szS_InDef (vs : List TInDef) (ok : (DC.sl (vs.map TInDef.enc)).ok) (left : Int) (h0 : 0 ≤ left) (h1 : left ≤ 1048576) : r_laws_szInDefS [.sl (vs.map TInDef.enc), .i left] = .ret [.i (szR left (DC.wt (.sl (vs.map TInDef.enc))))] := szS_InDef' vs (fun v _ => sz_InDef v) ok left h0 h1
theorem to_InDef (v : TInDef) : wtL (TInDef.enc v) ≤ 1048576 → r_laws_toInDef [.s v.name, .s v.desc, .s v.type'.name, .s v.type'.wraps, .b v.has', .i v.default'.kind, .s v.default'.text, .sl (v.default'.items.map TValue.enc), .sl (v.default'.names.map S1), .sl (v.dirs.map TDir.enc)] = .ret (TInDef.enc v) := by
  intro hw
  rw [wsum_InDef] at hw
  rw [eq_laws_toInDef]
  simp only [E_laws_toInDef, List.getD_cons_zero, List.getD_cons_succ, DC.bb_b, DC.ii_i, DC.ss_s, DC.ll_sl]
  rw [to_Type v.type' (by omega)]
  simp only [Out.bindR_ret, TType.enc_eq, List.getD_cons_zero, List.getD_cons_succ, DC.bb_b, DC.ii_i, DC.ss_s, DC.ll_sl]
  rw [to_Value v.default' (by omega)]
  simp only [Out.bindR_ret, TValue.enc_eq, List.getD_cons_zero, List.getD_cons_succ, DC.bb_b, DC.ii_i, DC.ss_s, DC.ll_sl]
  rw [toS_Dir v.dirs (by omega)]
  simp only [Out.bindR_ret, List.getD_cons_zero, List.getD_cons_succ, DC.bb_b, DC.ii_i, DC.ss_s, DC.ll_sl]
  rw [TInDef.enc_eq]
theorem toS_InDef' (vs : List TInDef) (hs : ∀ v ∈ vs, wtL (TInDef.enc v) ≤ 1048576 → r_laws_toInDef [.s v.name, .s v.desc, .s v.type'.name, .s v.type'.wraps, .b v.has', .i v.default'.kind, .s v.default'.text, .sl (v.default'.items.map TValue.enc), .sl (v.default'.names.map S1), .sl (v.dirs.map TDir.enc)] = .ret (TInDef.enc v)) (hw : DC.wt (.sl (vs.map TInDef.enc)) ≤ 1048576) : r_laws_toInDefS [.sl (vs.map TInDef.enc)] = .ret [.sl (vs.map TInDef.enc)] := by
  rw [DC.wt, List.length_map] at hw
  have hl : vs.length ≤ 1048576 := by omega
  rw [eq_laws_toInDefS]
  simp only [E_laws_toInDefS, List.getD_cons_zero, List.getD_cons_succ, DC.bb_b, DC.ii_i, DC.ss_s, DC.ll_sl]
  rw [if_pos ⟨by omega, by rw [List.length_map]; exact lim_of hl, trivial, by omega, by omega, rfl⟩, Int.toNat_natCast, List.length_map, show (0 : Int) = ((0 : Nat) : Int) from rfl, toS_loop hl (fun i hi cur h1 h2 => ?_) (fun cur => ?_)]
  · rfl
  · have key := hs vs[i] (List.getElem_mem hi) (by have := wtV_mem (List.mem_map_of_mem (f := TInDef.enc) (List.getElem_mem hi)); omega)
    have hc1 : (i : Int) < (vs.length : Int) := by omega
    simp only [E_laws_toInDefSL1, List.getD_cons_zero, List.getD_cons_succ, DC.bb_b, DC.ii_i, DC.ss_s, DC.ll_sl, Int.toNat_natCast, List.length_map, map_getD hi, h1, h2, TInDef.enc_eq] at key ⊢
    simp only [key, List.getD_cons_zero, List.getD_cons_succ, DC.bb_b, DC.ii_i, DC.ss_s, DC.ll_sl, Out.bindR_ret]
    simp [hi, hc1, wrap_succ hi (show vs.length ≤ 9223372036854775807 by omega), setRunD]
  · simp [E_laws_toInDefSL1]
theorem toS_InDef (vs : List TInDef) (hw : DC.wt (.sl (vs.map TInDef.enc)) ≤ 1048576) : r_laws_toInDefS [.sl (vs.map TInDef.enc)] = .ret [.sl (vs.map TInDef.enc)] := toS_InDef' vs (fun v _ => to_InDef v) hw
theorem eq_InDef (v : TInDef) : wtL (TInDef.enc v) ≤ 1048576 → r_laws_eqInDef [.s v.name, .s v.desc, .s v.type'.name, .s v.type'.wraps, .b v.has', .i v.default'.kind, .s v.default'.text, .sl (v.default'.items.map TValue.enc), .sl (v.default'.names.map S1), .sl (v.dirs.map TDir.enc), .s v.name, .s v.desc, .s v.type'.name, .s v.type'.wraps, .b v.has', .i v.default'.kind, .s v.default'.text, .sl (v.default'.items.map TValue.enc), .sl (v.default'.names.map S1), .sl (v.dirs.map TDir.enc)] = .ret [.b true] := by
  intro hw
  rw [wsum_InDef] at hw
  rw [eq_laws_eqInDef]
  simp only [E_laws_eqInDef, List.getD_cons_zero, List.getD_cons_succ, DC.bb_b, DC.ii_i, DC.ss_s, DC.ll_sl, bne_self_eq_false, beq_self_eq_true, Bool.not_true, Bool.false_eq_true, if_false]
  rw [eq_Type v.type' (by omega)]
  simp only [Out.bindR_ret, List.getD_cons_zero, List.getD_cons_succ, DC.bb_b, DC.ii_i, DC.ss_s, DC.ll_sl, bne_self_eq_false, beq_self_eq_true, Bool.not_true, Bool.false_eq_true, if_false]
  rw [eq_Value v.default' (by omega)]
  simp only [Out.bindR_ret, List.getD_cons_zero, List.getD_cons_succ, DC.bb_b, DC.ii_i, DC.ss_s, DC.ll_sl, bne_self_eq_false, beq_self_eq_true, Bool.not_true, Bool.false_eq_true, if_false]
  rw [eqS_Dir v.dirs (by omega)]
  simp only [Out.bindR_ret, List.getD_cons_zero, List.getD_cons_succ, DC.bb_b, DC.ii_i, DC.ss_s, DC.ll_sl, bne_self_eq_false, beq_self_eq_true, Bool.not_true, Bool.false_eq_true, if_false]
theorem eqS_InDef' (vs : List TInDef) (hs : ∀ v ∈ vs, wtL (TInDef.enc v) ≤ 1048576 → r_laws_eqInDef [.s v.name, .s v.desc, .s v.type'.name, .s v.type'.wraps, .b v.has', .i v.default'.kind, .s v.default'.text, .sl (v.default'.items.map TValue.enc), .sl (v.default'.names.map S1), .sl (v.dirs.map TDir.enc), .s v.name, .s v.desc, .s v.type'.name, .s v.type'.wraps, .b v.has', .i v.default'.kind, .s v.default'.text, .sl (v.default'.items.map TValue.enc), .sl (v.default'.names.map S1), .sl (v.dirs.map TDir.enc)] = .ret [.b true]) (hw : DC.wt (.sl (vs.map TInDef.enc)) ≤ 1048576) : r_laws_eqInDefS [.sl (vs.map TInDef.enc), .sl (vs.map TInDef.enc)] = .ret [.b true] := by
  rw [DC.wt, List.length_map] at hw
  have hl : vs.length ≤ 1048576 := by omega
  rw [eq_laws_eqInDefS]
  simp only [E_laws_eqInDefS, List.getD_cons_zero, List.getD_cons_succ, DC.bb_b, DC.ii_i, DC.ss_s, DC.ll_sl]
  refine eqS_all (fun i hi => ?_) ?_
  · rw [List.length_map] at hi
    have key := hs vs[i] (List.getElem_mem hi) (by have := wtV_mem (List.mem_map_of_mem (f := TInDef.enc) (List.getElem_mem hi)); omega)
    have hc1 : (i : Int) < (vs.length : Int) := by omega
    simp only [E_laws_eqInDefSL1, List.getD_cons_zero, List.getD_cons_succ, DC.bb_b, DC.ii_i, DC.ss_s, DC.ll_sl, Int.toNat_natCast, List.length_map, map_getD hi, TInDef.enc_eq] at key ⊢
    simp only [key, List.getD_cons_zero, List.getD_cons_succ, DC.bb_b, DC.ii_i, DC.ss_s, DC.ll_sl, Out.bindR_ret]
    simp [hi, hc1, wrap_succ hi (show vs.length ≤ 9223372036854775807 by omega)]
  · simp [E_laws_eqInDefSL1]
theorem eqS_InDef (vs : List TInDef) (hw : DC.wt (.sl (vs.map TInDef.enc)) ≤ 1048576) : r_laws_eqInDefS [.sl (vs.map TInDef.enc), .sl (vs.map TInDef.enc)] = .ret [.b true] := eqS_InDef' vs (fun v _ => eq_InDef v) hw
theorem wsum_FieldDef (v : TFieldDef) : wtL (TFieldDef.enc v) = v.name.length + v.desc.length + DC.wt (.sl (v.args.map TInDef.enc)) + wtL (TType.enc v.type') + DC.wt (.sl (v.dirs.map TDir.enc)) := by
  simp only [TFieldDef.enc_eq, wtL, DC.wt, TType.enc_eq]
  try omega
theorem sz_FieldDef (v : TFieldDef) : okL (TFieldDef.enc v) → ∀ left : Int, 0 ≤ left → left ≤ 1048576 → r_laws_szFieldDef [.s v.name, .s v.desc, .sl (v.args.map TInDef.enc), .s v.type'.name, .s v.type'.wraps, .sl (v.dirs.map TDir.enc), .i left] = .ret [.i (szR left (wtL (TFieldDef.enc v)))] := by
  intro ok left h0 h1
  rw [TFieldDef.enc_eq] at ok
  simp only [okL] at ok
  rw [eq_laws_szFieldDef]
  simp only [E_laws_szFieldDef, List.getD_cons_zero, List.getD_cons_succ, DC.bb_b, DC.ii_i, DC.ss_s, DC.ll_sl]
  rw [wsum_FieldDef]
  have b0 : v.name.length ≤ 9223372036854775807 := by simpa only [DC.ok] using ok.1
  have b1 : v.desc.length ≤ 9223372036854775807 := by simpa only [DC.ok] using ok.2.1
  rw [show IntKind.i64.wrap (left - (v.name.length : Int)) = left - (v.name.length : Int) from wrap64 (by omega) (by omega)]
  by_cases c0 : left < ((v.name.length : Nat) : Int)
  · have c0' : left - ((v.name.length : Nat) : Int) < 0 := by omega
    simp only [c0', decide_true, if_true]
    try rw [szR_lt (by omega)]
  have c0' : ¬ left - ((v.name.length : Nat) : Int) < 0 := by omega
  simp only [c0', decide_false, Bool.false_eq_true, if_false]
  rw [show IntKind.i64.wrap ((left - ((v.name.length : Nat) : Int)) - (v.desc.length : Int)) = (left - ((v.name.length : Nat) : Int)) - (v.desc.length : Int) from wrap64 (by omega) (by omega)]
  by_cases c1 : (left - ((v.name.length : Nat) : Int)) < ((v.desc.length : Nat) : Int)
  · have c1' : (left - ((v.name.length : Nat) : Int)) - ((v.desc.length : Nat) : Int) < 0 := by omega
    simp only [c1', decide_true, if_true]
    try rw [szR_lt (by omega)]
  have c1' : ¬ (left - ((v.name.length : Nat) : Int)) - ((v.desc.length : Nat) : Int) < 0 := by omega
  simp only [c1', decide_false, Bool.false_eq_true, if_false]
  rw [szS_InDef v.args ok.2.2.1 (((left - ((v.name.length : Nat) : Int)) - ((v.desc.length : Nat) : Int))) (by omega) (by omega)]
  simp only [Out.bindR_ret, List.getD_cons_zero, List.getD_cons_succ, DC.bb_b, DC.ii_i, DC.ss_s, DC.ll_sl]
  by_cases c2 : ((left - ((v.name.length : Nat) : Int)) - ((v.desc.length : Nat) : Int)) < ((DC.wt (.sl (v.args.map TInDef.enc)) : Nat) : Int)
  · rw [szR_lt c2]
    simp only [show (-1 : Int) < 0 by omega, decide_true, if_true]
    try rw [szR_lt (by omega)]
  rw [szR_ge c2]
  have c2' : ¬ ((left - ((v.name.length : Nat) : Int)) - ((v.desc.length : Nat) : Int)) - ((DC.wt (.sl (v.args.map TInDef.enc)) : Nat) : Int) < 0 := by omega
  simp only [c2', decide_false, Bool.false_eq_true, if_false]
  rw [sz_Type v.type' (by rw [TType.enc_eq]; simp only [okL]; exact ⟨ok.2.2.2.1, ok.2.2.2.2.1, trivial⟩) ((((left - ((v.name.length : Nat) : Int)) - ((v.desc.length : Nat) : Int)) - ((DC.wt (.sl (v.args.map TInDef.enc)) : Nat) : Int))) (by omega) (by omega)]
  simp only [Out.bindR_ret, List.getD_cons_zero, List.getD_cons_succ, DC.bb_b, DC.ii_i, DC.ss_s, DC.ll_sl]
  by_cases c3 : (((left - ((v.name.length : Nat) : Int)) - ((v.desc.length : Nat) : Int)) - ((DC.wt (.sl (v.args.map TInDef.enc)) : Nat) : Int)) < ((wtL (TType.enc v.type') : Nat) : Int)
  · rw [szR_lt c3]
    simp only [show (-1 : Int) < 0 by omega, decide_true, if_true]
    try rw [szR_lt (by omega)]
  rw [szR_ge c3]
  have c3' : ¬ (((left - ((v.name.length : Nat) : Int)) - ((v.desc.length : Nat) : Int)) - ((DC.wt (.sl (v.args.map TInDef.enc)) : Nat) : Int)) - ((wtL (TType.enc v.type') : Nat) : Int) < 0 := by omega
  simp only [c3', decide_false, Bool.false_eq_true, if_false]
  rw [szS_Dir v.dirs ok.2.2.2.2.2.1 (((((left - ((v.name.length : Nat) : Int)) - ((v.desc.length : Nat) : Int)) - ((DC.wt (.sl (v.args.map TInDef.enc)) : Nat) : Int)) - ((wtL (TType.enc v.type') : Nat) : Int))) (by omega) (by omega)]
  simp only [Out.bindR_ret, List.getD_cons_zero, List.getD_cons_succ, DC.bb_b, DC.ii_i, DC.ss_s, DC.ll_sl]
  by_cases c4 : ((((left - ((v.name.length : Nat) : Int)) - ((v.desc.length : Nat) : Int)) - ((DC.wt (.sl (v.args.map TInDef.enc)) : Nat) : Int)) - ((wtL (TType.enc v.type') : Nat) : Int)) < ((DC.wt (.sl (v.dirs.map TDir.enc)) : Nat) : Int)
  · rw [szR_lt c4]
    simp only [show (-1 : Int) < 0 by omega, decide_true, if_true]
    try rw [szR_lt (by omega)]
  rw [szR_ge c4]
  have c4' : ¬ ((((left - ((v.name.length : Nat) : Int)) - ((v.desc.length : Nat) : Int)) - ((DC.wt (.sl (v.args.map TInDef.enc)) : Nat) : Int)) - ((wtL (TType.enc v.type') : Nat) : Int)) - ((DC.wt (.sl (v.dirs.map TDir.enc)) : Nat) : Int) < 0 := by omega
  simp only [c4', decide_false, Bool.false_eq_true, if_false]
  first
  | done
  | rw [show szR left (v.name.length + v.desc.length + DC.wt (.sl (v.args.map TInDef.enc)) + wtL (TType.enc v.type') + DC.wt (.sl (v.dirs.map TDir.enc))) = (((((left - ((v.name.length : Nat) : Int)) - ((v.desc.length : Nat) : Int)) - ((DC.wt (.sl (v.args.map TInDef.enc)) : Nat) : Int)) - ((wtL (TType.enc v.type') : Nat) : Int)) - ((DC.wt (.sl (v.dirs.map TDir.enc)) : Nat) : Int)) from (szR_ge (by omega)).trans (by omega)]
theorem szS_FieldDef' (vs : List TFieldDef) (hs : ∀ v ∈ vs, okL (TFieldDef.enc v) → ∀ left : Int, 0 ≤ left → left ≤ 1048576 → r_laws_szFieldDef [.s v.name, .s v.desc, .sl (v.args.map TInDef.enc), .s v.type'.name, .s v.type'.wraps, .sl (v.dirs.map TDir.enc), .i left] = .ret [.i (szR left (wtL (TFieldDef.enc v)))]) (ok : (DC.sl (vs.map TFieldDef.enc)).ok) (left : Int) (h0 : 0 ≤ left) (h1 : left ≤ 1048576) : r_laws_szFieldDefS [.sl (vs.map TFieldDef.enc), .i left] = .ret [.i (szR left (DC.wt (.sl (vs.map TFieldDef.enc))))] := by
  rw [DC.ok, List.length_map] at ok
  obtain ⟨hl, ok⟩ := ok
  rw [eq_laws_szFieldDefS]
  simp only [E_laws_szFieldDefS, List.getD_cons_zero, List.getD_cons_succ, DC.bb_b, DC.ii_i, DC.ss_s, DC.ll_sl]
  refine szS_all hl (fun i hi left h0 h1 => ?_) (fun left => ?_) h0 h1
  · have key := hs vs[i] (List.getElem_mem hi) (okV_mem ok _ (List.mem_map_of_mem (List.getElem_mem hi))) left h0 h1
    generalize wtL (TFieldDef.enc vs[i]) = w at key ⊢
    have hc1 : (i : Int) < (vs.length : Int) := by omega
    simp only [E_laws_szFieldDefSL1, List.getD_cons_zero, List.getD_cons_succ, DC.bb_b, DC.ii_i, DC.ss_s, DC.ll_sl, Int.toNat_natCast, List.length_map, map_getD hi, TFieldDef.enc_eq, key, Out.bindR_ret]
    by_cases hc : left < (w : Int)
    · simp [hi, hc1, hc, szR_lt hc]
    · simp [hi, hc1, hc, szR_ge hc, show ¬ left - (w : Int) < 0 by omega, wrap_succ hi hl]
  · simp [E_laws_szFieldDefSL1]
theorem szS_FieldDef (vs : List TFieldDef) (ok : (DC.sl (vs.map TFieldDef.enc)).ok) (left : Int) (h0 : 0 ≤ left) (h1 : left ≤ 1048576) : r_laws_szFieldDefS [.sl (vs.map TFieldDef.enc), .i left] = .ret [.i (szR left (DC.wt (.sl (vs.map TFieldDef.enc))))] := szS_FieldDef' vs (fun v _ => sz_FieldDef v) ok left h0 h1
theorem to_FieldDef (v : TFieldDef) : wtL (TFieldDef.enc v) ≤ 1048576 → r_laws_toFieldDef [.s v.name, .s v.desc, .sl (v.args.map TInDef.enc), .s v.type'.name, .s v.type'.wraps, .sl (v.dirs.map TDir.enc)] = .ret (TFieldDef.enc v) := by
  intro hw
  rw [wsum_FieldDef] at hw
  rw [eq_laws_toFieldDef]
  simp only [E_laws_toFieldDef, List.getD_cons_zero, List.getD_cons_succ, DC.bb_b, DC.ii_i, DC.ss_s, DC.ll_sl]
  rw [toS_InDef v.args (by omega)]
  simp only [Out.bindR_ret, List.getD_cons_zero, List.getD_cons_succ, DC.bb_b, DC.ii_i, DC.ss_s, DC.ll_sl]
  rw [to_Type v.type' (by omega)]
  simp only [Out.bindR_ret, TType.enc_eq, List.getD_cons_zero, List.getD_cons_succ, DC.bb_b, DC.ii_i, DC.ss_s, DC.ll_sl]
  rw [toS_Dir v.dirs (by omega)]
  simp only [Out.bindR_ret, List.getD_cons_zero, List.getD_cons_succ, DC.bb_b, DC.ii_i, DC.ss_s, DC.ll_sl]
  rw [TFieldDef.enc_eq]
theorem toS_FieldDef' (vs : List TFieldDef) (hs : ∀ v ∈ vs, wtL (TFieldDef.enc v) ≤ 1048576 → r_laws_toFieldDef [.s v.name, .s v.desc, .sl (v.args.map TInDef.enc), .s v.type'.name, .s v.type'.wraps, .sl (v.dirs.map TDir.enc)] = .ret (TFieldDef.enc v)) (hw : DC.wt (.sl (vs.map TFieldDef.enc)) ≤ 1048576) : r_laws_toFieldDefS [.sl (vs.map TFieldDef.enc)] = .ret [.sl (vs.map TFieldDef.enc)] := by
  rw [DC.wt, List.length_map] at hw
  have hl : vs.length ≤ 1048576 := by omega
  rw [eq_laws_toFieldDefS]
  simp only [E_laws_toFieldDefS, List.getD_cons_zero, List.getD_cons_succ, DC.bb_b, DC.ii_i, DC.ss_s, DC.ll_sl]
  rw [if_pos ⟨by omega, by rw [List.length_map]; exact lim_of hl, trivial, by omega, by omega, rfl⟩, Int.toNat_natCast, List.length_map, show (0 : Int) = ((0 : Nat) : Int) from rfl, toS_loop hl (fun i hi cur h1 h2 => ?_) (fun cur => ?_)]
  · rfl
  · have key := hs vs[i] (List.getElem_mem hi) (by have := wtV_mem (List.mem_map_of_mem (f := TFieldDef.enc) (List.getElem_mem hi)); omega)
    have hc1 : (i : Int) < (vs.length : Int) := by omega
    simp only [E_laws_toFieldDefSL1, List.getD_cons_zero, List.getD_cons_succ, DC.bb_b, DC.ii_i, DC.ss_s, DC.ll_sl, Int.toNat_natCast, List.length_map, map_getD hi, h1, h2, TFieldDef.enc_eq] at key ⊢
    simp only [key, List.getD_cons_zero, List.getD_cons_succ, DC.bb_b, DC.ii_i, DC.ss_s, DC.ll_sl, Out.bindR_ret]
    simp [hi, hc1, wrap_succ hi (show vs.length ≤ 9223372036854775807 by omega), setRunD]
  · simp [E_laws_toFieldDefSL1]
theorem toS_FieldDef (vs : List TFieldDef) (hw : DC.wt (.sl (vs.map TFieldDef.enc)) ≤ 1048576) : r_laws_toFieldDefS [.sl (vs.map TFieldDef.enc)] = .ret [.sl (vs.map TFieldDef.enc)] := toS_FieldDef' vs (fun v _ => to_FieldDef v) hw
theorem eq_FieldDef (v : TFieldDef) : wtL (TFieldDef.enc v) ≤ 1048576 → r_laws_eqFieldDef [.s v.name, .s v.desc, .sl (v.args.map TInDef.enc), .s v.type'.name, .s v.type'.wraps, .sl (v.dirs.map TDir.enc), .s v.name, .s v.desc, .sl (v.args.map TInDef.enc), .s v.type'.name, .s v.type'.wraps, .sl (v.dirs.map TDir.enc)] = .ret [.b true] := by
  intro hw
  rw [wsum_FieldDef] at hw
  rw [eq_laws_eqFieldDef]
  simp only [E_laws_eqFieldDef, List.getD_cons_zero, List.getD_cons_succ, DC.bb_b, DC.ii_i, DC.ss_s, DC.ll_sl, bne_self_eq_false, beq_self_eq_true, Bool.not_true, Bool.false_eq_true, if_false]
  rw [eqS_InDef v.args (by omega)]
  simp only [Out.bindR_ret, List.getD_cons_zero, List.getD_cons_succ, DC.bb_b, DC.ii_i, DC.ss_s, DC.ll_sl, bne_self_eq_false, beq_self_eq_true, Bool.not_true, Bool.false_eq_true, if_false]
  rw [eq_Type v.type' (by omega)]
  simp only [Out.bindR_ret, List.getD_cons_zero, List.getD_cons_succ, DC.bb_b, DC.ii_i, DC.ss_s, DC.ll_sl, bne_self_eq_false, beq_self_eq_true, Bool.not_true, Bool.false_eq_true, if_false]
  rw [eqS_Dir v.dirs (by omega)]
  simp only [Out.bindR_ret, List.getD_cons_zero, List.getD_cons_succ, DC.bb_b, DC.ii_i, DC.ss_s, DC.ll_sl, bne_self_eq_false, beq_self_eq_true, Bool.not_true, Bool.false_eq_true, if_false]
theorem eqS_FieldDef' (vs : List TFieldDef) (hs : ∀ v ∈ vs, wtL (TFieldDef.enc v) ≤ 1048576 → r_laws_eqFieldDef [.s v.name, .s v.desc, .sl (v.args.map TInDef.enc), .s v.type'.name, .s v.type'.wraps, .sl (v.dirs.map TDir.enc), .s v.name, .s v.desc, .sl (v.args.map TInDef.enc), .s v.type'.name, .s v.type'.wraps, .sl (v.dirs.map TDir.enc)] = .ret [.b true]) (hw : DC.wt (.sl (vs.map TFieldDef.enc)) ≤ 1048576) : r_laws_eqFieldDefS [.sl (vs.map TFieldDef.enc), .sl (vs.map TFieldDef.enc)] = .ret [.b true] := by
  rw [DC.wt, List.length_map] at hw
  have hl : vs.length ≤ 1048576 := by omega
  rw [eq_laws_eqFieldDefS]
  simp only [E_laws_eqFieldDefS, List.getD_cons_zero, List.getD_cons_succ, DC.bb_b, DC.ii_i, DC.ss_s, DC.ll_sl]
  refine eqS_all (fun i hi => ?_) ?_
  · rw [List.length_map] at hi
    have key := hs vs[i] (List.getElem_mem hi) (by have := wtV_mem (List.mem_map_of_mem (f := TFieldDef.enc) (List.getElem_mem hi)); omega)
    have hc1 : (i : Int) < (vs.length : Int) := by omega
    simp only [E_laws_eqFieldDefSL1, List.getD_cons_zero, List.getD_cons_succ, DC.bb_b, DC.ii_i, DC.ss_s, DC.ll_sl, Int.toNat_natCast, List.length_map, map_getD hi, TFieldDef.enc_eq] at key ⊢
    simp only [key, List.getD_cons_zero, List.getD_cons_succ, DC.bb_b, DC.ii_i, DC.ss_s, DC.ll_sl, Out.bindR_ret]
    simp [hi, hc1, wrap_succ hi (show vs.length ≤ 9223372036854775807 by omega)]
  · simp [E_laws_eqFieldDefSL1]
theorem eqS_FieldDef (vs : List TFieldDef) (hw : DC.wt (.sl (vs.map TFieldDef.enc)) ≤ 1048576) : r_laws_eqFieldDefS [.sl (vs.map TFieldDef.enc), .sl (vs.map TFieldDef.enc)] = .ret [.b true] := eqS_FieldDef' vs (fun v _ => eq_FieldDef v) hw
theorem wsum_EnumDef (v : TEnumDef) : wtL (TEnumDef.enc v) = v.name.length + v.desc.length + DC.wt (.sl (v.dirs.map TDir.enc)) := by
  simp only [TEnumDef.enc_eq, wtL, DC.wt]
  try omega
theorem sz_EnumDef (v : TEnumDef) : okL (TEnumDef.enc v) → ∀ left : Int, 0 ≤ left → left ≤ 1048576 → r_laws_szEnumDef [.s v.name, .s v.desc, .sl (v.dirs.map TDir.enc), .i left] = .ret [.i (szR left (wtL (TEnumDef.enc v)))] := by
  intro ok left h0 h1
  rw [TEnumDef.enc_eq] at ok
  simp only [okL] at ok
  rw [eq_laws_szEnumDef]
  simp only [E_laws_szEnumDef, List.getD_cons_zero, List.getD_cons_succ, DC.bb_b, DC.ii_i, DC.ss_s, DC.ll_sl]
  rw [wsum_EnumDef]
  have b0 : v.name.length ≤ 9223372036854775807 := by simpa only [DC.ok] using ok.1
  have b1 : v.desc.length ≤ 9223372036854775807 := by simpa only [DC.ok] using ok.2.1
  rw [show IntKind.i64.wrap (left - (v.name.length : Int)) = left - (v.name.length : Int) from wrap64 (by omega) (by omega)]
  by_cases c0 : left < ((v.name.length : Nat) : Int)
  · have c0' : left - ((v.name.length : Nat) : Int) < 0 := by omega
    simp only [c0', decide_true, if_true]
    try rw [szR_lt (by omega)]
  have c0' : ¬ left - ((v.name.length : Nat) : Int) < 0 := by omega
  simp only [c0', decide_false, Bool.false_eq_true, if_false]
  rw [show IntKind.i64.wrap ((left - ((v.name.length : Nat) : Int)) - (v.desc.length : Int)) = (left - ((v.name.length : Nat) : Int)) - (v.desc.length : Int) from wrap64 (by omega) (by omega)]
  by_cases c1 : (left - ((v.name.length : Nat) : Int)) < ((v.desc.length : Nat) : Int)
  · have c1' : (left - ((v.name.length : Nat) : Int)) - ((v.desc.length : Nat) : Int) < 0 := by omega
    simp only [c1', decide_true, if_true]
    try rw [szR_lt (by omega)]
  have c1' : ¬ (left - ((v.name.length : Nat) : Int)) - ((v.desc.length : Nat) : Int) < 0 := by omega
  simp only [c1', decide_false, Bool.false_eq_true, if_false]
  rw [szS_Dir v.dirs ok.2.2.1 (((left - ((v.name.length : Nat) : Int)) - ((v.desc.length : Nat) : Int))) (by omega) (by omega)]
  simp only [Out.bindR_ret, List.getD_cons_zero, List.getD_cons_succ, DC.bb_b, DC.ii_i, DC.ss_s, DC.ll_sl]
  by_cases c2 : ((left - ((v.name.length : Nat) : Int)) - ((v.desc.length : Nat) : Int)) < ((DC.wt (.sl (v.dirs.map TDir.enc)) : Nat) : Int)
  · rw [szR_lt c2]
    simp only [show (-1 : Int) < 0 by omega, decide_true, if_true]
    try rw [szR_lt (by omega)]
  rw [szR_ge c2]
  have c2' : ¬ ((left - ((v.name.length : Nat) : Int)) - ((v.desc.length : Nat) : Int)) - ((DC.wt (.sl (v.dirs.map TDir.enc)) : Nat) : Int) < 0 := by omega
  simp only [c2', decide_false, Bool.false_eq_true, if_false]
  first
  | done
  | rw [show szR left (v.name.length + v.desc.length + DC.wt (.sl (v.dirs.map TDir.enc))) = (((left - ((v.name.length : Nat) : Int)) - ((v.desc.length : Nat) : Int)) - ((DC.wt (.sl (v.dirs.map TDir.enc)) : Nat) : Int)) from (szR_ge (by omega)).trans (by omega)]
theorem szS_EnumDef' (vs : List TEnumDef) (hs : ∀ v ∈ vs, okL (TEnumDef.enc v) → ∀ left : Int, 0 ≤ left → left ≤ 1048576 → r_laws_szEnumDef [.s v.name, .s v.desc, .sl (v.dirs.map TDir.enc), .i left] = .ret [.i (szR left (wtL (TEnumDef.enc v)))]) (ok : (DC.sl (vs.map TEnumDef.enc)).ok) (left : Int) (h0 : 0 ≤ left) (h1 : left ≤ 1048576) : r_laws_szEnumDefS [.sl (vs.map TEnumDef.enc), .i left] = .ret [.i (szR left (DC.wt (.sl (vs.map TEnumDef.enc))))] := by
  rw [DC.ok, List.length_map] at ok
  obtain ⟨hl, ok⟩ := ok
  rw [eq_laws_szEnumDefS]
  simp only [E_laws_szEnumDefS, List.getD_cons_zero, List.getD_cons_succ, DC.bb_b, DC.ii_i, DC.ss_s, DC.ll_sl]
  refine szS_all hl (fun i hi left h0 h1 => ?_) (fun left => ?_) h0 h1
  · have key := hs vs[i] (List.getElem_mem hi) (okV_mem ok _ (List.mem_map_of_mem (List.getElem_mem hi))) left h0 h1
    generalize wtL (TEnumDef.enc vs[i]) = w at key ⊢
    have hc1 : (i : Int) < (vs.length : Int) := by omega
    simp only [E_laws_szEnumDefSL1, List.getD_cons_zero, List.getD_cons_succ, DC.bb_b, DC.ii_i, DC.ss_s, DC.ll_sl, Int.toNat_natCast, List.length_map, map_getD hi, TEnumDef.enc_eq, key, Out.bindR_ret]
    by_cases hc : left < (w : Int)
    · simp [hi, hc1, hc, szR_lt hc]
    · simp [hi, hc1, hc, szR_ge hc, show ¬ left - (w : Int) < 0 by omega, wrap_succ hi hl]
  · simp [E_laws_szEnumDefSL1]
theorem szS_EnumDef (vs : List TEnumDef) (ok : (DC.sl (vs.map TEnumDef.enc)).ok) (left : Int) (h0 : 0 ≤ left) (h1 : left ≤ 1048576) : r_laws_szEnumDefS [.sl (vs.map TEnumDef.enc), .i left] = .ret [.i (szR left (DC.wt (.sl (vs.map TEnumDef.enc))))] := szS_EnumDef' vs (fun v _ => sz_EnumDef v) ok left h0 h1
theorem to_EnumDef (v : TEnumDef) : wtL (TEnumDef.enc v) ≤ 1048576 → r_laws_toEnumDef [.s v.name, .s v.desc, .sl (v.dirs.map TDir.enc)] = .ret (TEnumDef.enc v) := by
  intro hw
  rw [wsum_EnumDef] at hw
  rw [eq_laws_toEnumDef]
  simp only [E_laws_toEnumDef, List.getD_cons_zero, List.getD_cons_succ, DC.bb_b, DC.ii_i, DC.ss_s, DC.ll_sl]
  rw [toS_Dir v.dirs (by omega)]
  simp only [Out.bindR_ret, List.getD_cons_zero, List.getD_cons_succ, DC.bb_b, DC.ii_i, DC.ss_s, DC.ll_sl]
  rw [TEnumDef.enc_eq]
theorem toS_EnumDef' (vs : List TEnumDef) (hs : ∀ v ∈ vs, wtL (TEnumDef.enc v) ≤ 1048576 → r_laws_toEnumDef [.s v.name, .s v.desc, .sl (v.dirs.map TDir.enc)] = .ret (TEnumDef.enc v)) (hw : DC.wt (.sl (vs.map TEnumDef.enc)) ≤ 1048576) : r_laws_toEnumDefS [.sl (vs.map TEnumDef.enc)] = .ret [.sl (vs.map TEnumDef.enc)] := by
  rw [DC.wt, List.length_map] at hw
  have hl : vs.length ≤ 1048576 := by omega
  rw [eq_laws_toEnumDefS]
  simp only [E_laws_toEnumDefS, List.getD_cons_zero, List.getD_cons_succ, DC.bb_b, DC.ii_i, DC.ss_s, DC.ll_sl]
  rw [if_pos ⟨by omega, by rw [List.length_map]; exact lim_of hl, trivial, by omega, by omega, rfl⟩, Int.toNat_natCast, List.length_map, show (0 : Int) = ((0 : Nat) : Int) from rfl, toS_loop hl (fun i hi cur h1 h2 => ?_) (fun cur => ?_)]
  · rfl
  · have key := hs vs[i] (List.getElem_mem hi) (by have := wtV_mem (List.mem_map_of_mem (f := TEnumDef.enc) (List.getElem_mem hi)); omega)
    have hc1 : (i : Int) < (vs.length : Int) := by omega
    simp only [E_laws_toEnumDefSL1, List.getD_cons_zero, List.getD_cons_succ, DC.bb_b, DC.ii_i, DC.ss_s, DC.ll_sl, Int.toNat_natCast, List.length_map, map_getD hi, h1, h2, TEnumDef.enc_eq] at key ⊢
    simp only [key, List.getD_cons_zero, List.getD_cons_succ, DC.bb_b, DC.ii_i, DC.ss_s, DC.ll_sl, Out.bindR_ret]
    simp [hi, hc1, wrap_succ hi (show vs.length ≤ 9223372036854775807 by omega), setRunD]
  · simp [E_laws_toEnumDefSL1]
theorem toS_EnumDef (vs : List TEnumDef) (hw : DC.wt (.sl (vs.map TEnumDef.enc)) ≤ 1048576) : r_laws_toEnumDefS [.sl (vs.map TEnumDef.enc)] = .ret [.sl (vs.map TEnumDef.enc)] := toS_EnumDef' vs (fun v _ => to_EnumDef v) hw
theorem eq_EnumDef (v : TEnumDef) : wtL (TEnumDef.enc v) ≤ 1048576 → r_laws_eqEnumDef [.s v.name, .s v.desc, .sl (v.dirs.map TDir.enc), .s v.name, .s v.desc, .sl (v.dirs.map TDir.enc)] = .ret [.b true] := by
  intro hw
  rw [wsum_EnumDef] at hw
  rw [eq_laws_eqEnumDef]
  simp only [E_laws_eqEnumDef, List.getD_cons_zero, List.getD_cons_succ, DC.bb_b, DC.ii_i, DC.ss_s, DC.ll_sl, bne_self_eq_false, beq_self_eq_true, Bool.not_true, Bool.false_eq_true, if_false]
  rw [eqS_Dir v.dirs (by omega)]
  simp only [Out.bindR_ret, List.getD_cons_zero, List.getD_cons_succ, DC.bb_b, DC.ii_i, DC.ss_s, DC.ll_sl, bne_self_eq_false, beq_self_eq_true, Bool.not_true, Bool.false_eq_true, if_false]
theorem eqS_EnumDef' (vs : List TEnumDef) (hs : ∀ v ∈ vs, wtL (TEnumDef.enc v) ≤ 1048576 → r_laws_eqEnumDef [.s v.name, .s v.desc, .sl (v.dirs.map TDir.enc), .s v.name, .s v.desc, .sl (v.dirs.map TDir.enc)] = .ret [.b true]) (hw : DC.wt (.sl (vs.map TEnumDef.enc)) ≤ 1048576) : r_laws_eqEnumDefS [.sl (vs.map TEnumDef.enc), .sl (vs.map TEnumDef.enc)] = .ret [.b true] := by
  rw [DC.wt, List.length_map] at hw
  have hl : vs.length ≤ 1048576 := by omega
  rw [eq_laws_eqEnumDefS]
  simp only [E_laws_eqEnumDefS, List.getD_cons_zero, List.getD_cons_succ, DC.bb_b, DC.ii_i, DC.ss_s, DC.ll_sl]
  refine eqS_all (fun i hi => ?_) ?_
  · rw [List.length_map] at hi
    have key := hs vs[i] (List.getElem_mem hi) (by have := wtV_mem (List.mem_map_of_mem (f := TEnumDef.enc) (List.getElem_mem hi)); omega)
    have hc1 : (i : Int) < (vs.length : Int) := by omega
    simp only [E_laws_eqEnumDefSL1, List.getD_cons_zero, List.getD_cons_succ, DC.bb_b, DC.ii_i, DC.ss_s, DC.ll_sl, Int.toNat_natCast, List.length_map, map_getD hi, TEnumDef.enc_eq] at key ⊢
    simp only [key, List.getD_cons_zero, List.getD_cons_succ, DC.bb_b, DC.ii_i, DC.ss_s, DC.ll_sl, Out.bindR_ret]
    simp [hi, hc1, wrap_succ hi (show vs.length ≤ 9223372036854775807 by omega)]
  · simp [E_laws_eqEnumDefSL1]
theorem eqS_EnumDef (vs : List TEnumDef) (hw : DC.wt (.sl (vs.map TEnumDef.enc)) ≤ 1048576) : r_laws_eqEnumDefS [.sl (vs.map TEnumDef.enc), .sl (vs.map TEnumDef.enc)] = .ret [.b true] := eqS_EnumDef' vs (fun v _ => eq_EnumDef v) hw
theorem wsum_Root (v : TRoot) : wtL (TRoot.enc v) = v.type'.length := by
  simp only [TRoot.enc_eq, wtL, DC.wt]
  try omega
theorem sz_Root (v : TRoot) : okL (TRoot.enc v) → ∀ left : Int, 0 ≤ left → left ≤ 1048576 → r_laws_szRoot [.i v.kind, .s v.type', .i left] = .ret [.i (szR left (wtL (TRoot.enc v)))] := by
  intro ok left h0 h1
  rw [TRoot.enc_eq] at ok
  simp only [okL] at ok
  rw [eq_laws_szRoot]
  simp only [E_laws_szRoot, List.getD_cons_zero, List.getD_cons_succ, DC.bb_b, DC.ii_i, DC.ss_s, DC.ll_sl]
  rw [wsum_Root]
  have b0 : v.type'.length ≤ 9223372036854775807 := by simpa only [DC.ok] using ok.2.1
  rw [show IntKind.i64.wrap (left - (v.type'.length : Int)) = left - (v.type'.length : Int) from wrap64 (by omega) (by omega)]
  by_cases c0 : left < ((v.type'.length : Nat) : Int)
  · have c0' : left - ((v.type'.length : Nat) : Int) < 0 := by omega
    simp only [c0', decide_true, if_true]
    try rw [szR_lt (by omega)]
  have c0' : ¬ left - ((v.type'.length : Nat) : Int) < 0 := by omega
  simp only [c0', decide_false, Bool.false_eq_true, if_false]
  first
  | done
  | rw [show szR left (v.type'.length) = (left - ((v.type'.length : Nat) : Int)) from (szR_ge (by omega)).trans (by omega)]
theorem szS_Root' (vs : List TRoot) (hs : ∀ v ∈ vs, okL (TRoot.enc v) → ∀ left : Int, 0 ≤ left → left ≤ 1048576 → r_laws_szRoot [.i v.kind, .s v.type', .i left] = .ret [.i (szR left (wtL (TRoot.enc v)))]) (ok : (DC.sl (vs.map TRoot.enc)).ok) (left : Int) (h0 : 0 ≤ left) (h1 : left ≤ 1048576) : r_laws_szRootS [.sl (vs.map TRoot.enc), .i left] = .ret [.i (szR left (DC.wt (.sl (vs.map TRoot.enc))))] := by
  rw [DC.ok, List.length_map] at ok
  obtain ⟨hl, ok⟩ := ok
  rw [eq_laws_szRootS]
  simp only [E_laws_szRootS, List.getD_cons_zero, List.getD_cons_succ, DC.bb_b, DC.ii_i, DC.ss_s, DC.ll_sl]
  refine szS_all hl (fun i hi left h0 h1 => ?_) (fun left => ?_) h0 h1
  · have key := hs vs[i] (List.getElem_mem hi) (okV_mem ok _ (List.mem_map_of_mem (List.getElem_mem hi))) left h0 h1
    generalize wtL (TRoot.enc vs[i]) = w at key ⊢
    have hc1 : (i : Int) < (vs.length : Int) := by omega
    simp only [E_laws_szRootSL1, List.getD_cons_zero, List.getD_cons_succ, DC.bb_b, DC.ii_i, DC.ss_s, DC.ll_sl, Int.toNat_natCast, List.length_map, map_getD hi, TRoot.enc_eq, key, Out.bindR_ret]
    by_cases hc : left < (w : Int)
    · simp [hi, hc1, hc, szR_lt hc]
    · simp [hi, hc1, hc, szR_ge hc, show ¬ left - (w : Int) < 0 by omega, wrap_succ hi hl]
  · simp [E_laws_szRootSL1]
theorem szS_Root (vs : List TRoot) (ok : (DC.sl (vs.map TRoot.enc)).ok) (left : Int) (h0 : 0 ≤ left) (h1 : left ≤ 1048576) : r_laws_szRootS [.sl (vs.map TRoot.enc), .i left] = .ret [.i (szR left (DC.wt (.sl (vs.map TRoot.enc))))] := szS_Root' vs (fun v _ => sz_Root v) ok left h0 h1
theorem to_Root (v : TRoot) : wtL (TRoot.enc v) ≤ 1048576 → r_laws_toRoot [.i v.kind, .s v.type'] = .ret (TRoot.enc v) := by
  intro hw
  rw [wsum_Root] at hw
  rw [eq_laws_toRoot]
  simp only [E_laws_toRoot, List.getD_cons_zero, List.getD_cons_succ, DC.bb_b, DC.ii_i, DC.ss_s, DC.ll_sl]
  rw [TRoot.enc_eq]
theorem toS_Root' (vs : List TRoot) (hs : ∀ v ∈ vs, wtL (TRoot.enc v) ≤ 1048576 → r_laws_toRoot [.i v.kind, .s v.type'] = .ret (TRoot.enc v)) (hw : DC.wt (.sl (vs.map TRoot.enc)) ≤ 1048576) : r_laws_toRootS [.sl (vs.map TRoot.enc)] = .ret [.sl (vs.map TRoot.enc)] := by
  rw [DC.wt, List.length_map] at hw
  have hl : vs.length ≤ 1048576 := by omega
  rw [eq_laws_toRootS]
  simp only [E_laws_toRootS, List.getD_cons_zero, List.getD_cons_succ, DC.bb_b, DC.ii_i, DC.ss_s, DC.ll_sl]
  rw [if_pos ⟨by omega, by rw [List.length_map]; exact lim_of hl, trivial, by omega, by omega, rfl⟩, Int.toNat_natCast, List.length_map, show (0 : Int) = ((0 : Nat) : Int) from rfl, toS_loop hl (fun i hi cur h1 h2 => ?_) (fun cur => ?_)]
  · rfl
  · have key := hs vs[i] (List.getElem_mem hi) (by have := wtV_mem (List.mem_map_of_mem (f := TRoot.enc) (List.getElem_mem hi)); omega)
    have hc1 : (i : Int) < (vs.length : Int) := by omega
    simp only [E_laws_toRootSL1, List.getD_cons_zero, List.getD_cons_succ, DC.bb_b, DC.ii_i, DC.ss_s, DC.ll_sl, Int.toNat_natCast, List.length_map, map_getD hi, h1, h2, TRoot.enc_eq] at key ⊢
    simp only [key, List.getD_cons_zero, List.getD_cons_succ, DC.bb_b, DC.ii_i, DC.ss_s, DC.ll_sl, Out.bindR_ret]
    simp [hi, hc1, wrap_succ hi (show vs.length ≤ 9223372036854775807 by omega), setRunD]
  · simp [E_laws_toRootSL1]
theorem toS_Root (vs : List TRoot) (hw : DC.wt (.sl (vs.map TRoot.enc)) ≤ 1048576) : r_laws_toRootS [.sl (vs.map TRoot.enc)] = .ret [.sl (vs.map TRoot.enc)] := toS_Root' vs (fun v _ => to_Root v) hw
theorem eq_Root (v : TRoot) : wtL (TRoot.enc v) ≤ 1048576 → r_laws_eqRoot [.i v.kind, .s v.type', .i v.kind, .s v.type'] = .ret [.b true] := by
  intro hw
  rw [wsum_Root] at hw
  rw [eq_laws_eqRoot]
  simp only [E_laws_eqRoot, List.getD_cons_zero, List.getD_cons_succ, DC.bb_b, DC.ii_i, DC.ss_s, DC.ll_sl, bne_self_eq_false, beq_self_eq_true, Bool.not_true, Bool.false_eq_true, if_false]
theorem eqS_Root' (vs : List TRoot) (hs : ∀ v ∈ vs, wtL (TRoot.enc v) ≤ 1048576 → r_laws_eqRoot [.i v.kind, .s v.type', .i v.kind, .s v.type'] = .ret [.b true]) (hw : DC.wt (.sl (vs.map TRoot.enc)) ≤ 1048576) : r_laws_eqRootS [.sl (vs.map TRoot.enc), .sl (vs.map TRoot.enc)] = .ret [.b true] := by
  rw [DC.wt, List.length_map] at hw
  have hl : vs.length ≤ 1048576 := by omega
  rw [eq_laws_eqRootS]
  simp only [E_laws_eqRootS, List.getD_cons_zero, List.getD_cons_succ, DC.bb_b, DC.ii_i, DC.ss_s, DC.ll_sl]
  refine eqS_all (fun i hi => ?_) ?_
  · rw [List.length_map] at hi
    have key := hs vs[i] (List.getElem_mem hi) (by have := wtV_mem (List.mem_map_of_mem (f := TRoot.enc) (List.getElem_mem hi)); omega)
    have hc1 : (i : Int) < (vs.length : Int) := by omega
    simp only [E_laws_eqRootSL1, List.getD_cons_zero, List.getD_cons_succ, DC.bb_b, DC.ii_i, DC.ss_s, DC.ll_sl, Int.toNat_natCast, List.length_map, map_getD hi, TRoot.enc_eq] at key ⊢
    simp only [key, List.getD_cons_zero, List.getD_cons_succ, DC.bb_b, DC.ii_i, DC.ss_s, DC.ll_sl, Out.bindR_ret]
    simp [hi, hc1, wrap_succ hi (show vs.length ≤ 9223372036854775807 by omega)]
  · simp [E_laws_eqRootSL1]
theorem eqS_Root (vs : List TRoot) (hw : DC.wt (.sl (vs.map TRoot.enc)) ≤ 1048576) : r_laws_eqRootS [.sl (vs.map TRoot.enc), .sl (vs.map TRoot.enc)] = .ret [.b true] := eqS_Root' vs (fun v _ => eq_Root v) hw
theorem wsum_Def (v : TDef) : wtL (TDef.enc v) = v.desc.length + v.name.length + DC.wt (.sl (v.faces.map S1)) + DC.wt (.sl (v.fields.map TFieldDef.enc)) + DC.wt (.sl (v.inputs.map TInDef.enc)) + DC.wt (.sl (v.values.map TEnumDef.enc)) + DC.wt (.sl (v.roots.map TRoot.enc)) + DC.wt (.sl (v.dirs.map TDir.enc)) := by
  simp only [TDef.enc_eq, wtL, DC.wt]
  try omega
theorem sz_Def (v : TDef) : okL (TDef.enc v) → ∀ left : Int, 0 ≤ left → left ≤ 1048576 → r_laws_szDef [.i v.kind, .b v.ext, .s v.desc, .s v.name, .sl (v.faces.map S1), .sl (v.fields.map TFieldDef.enc), .sl (v.inputs.map TInDef.enc), .sl (v.values.map TEnumDef.enc), .sl (v.roots.map TRoot.enc), .b v.repeat', .sl (v.dirs.map TDir.enc), .i left] = .ret [.i (szR left (wtL (TDef.enc v)))] := by
  intro ok left h0 h1
  rw [TDef.enc_eq] at ok
  simp only [okL] at ok
  rw [eq_laws_szDef]
  simp only [E_laws_szDef, List.getD_cons_zero, List.getD_cons_succ, DC.bb_b, DC.ii_i, DC.ss_s, DC.ll_sl]
  rw [wsum_Def]
  have b0 : v.desc.length ≤ 9223372036854775807 := by simpa only [DC.ok] using ok.2.2.1
  have b1 : v.name.length ≤ 9223372036854775807 := by simpa only [DC.ok] using ok.2.2.2.1
  rw [show IntKind.i64.wrap (left - (v.desc.length : Int)) = left - (v.desc.length : Int) from wrap64 (by omega) (by omega)]
  by_cases c0 : left < ((v.desc.length : Nat) : Int)
  · have c0' : left - ((v.desc.length : Nat) : Int) < 0 := by omega
    simp only [c0', decide_true, if_true]
    try rw [szR_lt (by omega)]
  have c0' : ¬ left - ((v.desc.length : Nat) : Int) < 0 := by omega
  simp only [c0', decide_false, Bool.false_eq_true, if_false]
  rw [show IntKind.i64.wrap ((left - ((v.desc.length : Nat) : Int)) - (v.name.length : Int)) = (left - ((v.desc.length : Nat) : Int)) - (v.name.length : Int) from wrap64 (by omega) (by omega)]
  by_cases c1 : (left - ((v.desc.length : Nat) : Int)) < ((v.name.length : Nat) : Int)
  · have c1' : (left - ((v.desc.length : Nat) : Int)) - ((v.name.length : Nat) : Int) < 0 := by omega
    simp only [c1', decide_true, if_true]
    try rw [szR_lt (by omega)]
  have c1' : ¬ (left - ((v.desc.length : Nat) : Int)) - ((v.name.length : Nat) : Int) < 0 := by omega
  simp only [c1', decide_false, Bool.false_eq_true, if_false]
  rw [szS_String v.faces ok.2.2.2.2.1 (((left - ((v.desc.length : Nat) : Int)) - ((v.name.length : Nat) : Int))) (by omega) (by omega)]
  simp only [Out.bindR_ret, List.getD_cons_zero, List.getD_cons_succ, DC.bb_b, DC.ii_i, DC.ss_s, DC.ll_sl]
  by_cases c2 : ((left - ((v.desc.length : Nat) : Int)) - ((v.name.length : Nat) : Int)) < ((DC.wt (.sl (v.faces.map S1)) : Nat) : Int)
  · rw [szR_lt c2]
    simp only [show (-1 : Int) < 0 by omega, decide_true, if_true]
    try rw [szR_lt (by omega)]
  rw [szR_ge c2]
  have c2' : ¬ ((left - ((v.desc.length : Nat) : Int)) - ((v.name.length : Nat) : Int)) - ((DC.wt (.sl (v.faces.map S1)) : Nat) : Int) < 0 := by omega
  simp only [c2', decide_false, Bool.false_eq_true, if_false]
  rw [szS_FieldDef v.fields ok.2.2.2.2.2.1 ((((left - ((v.desc.length : Nat) : Int)) - ((v.name.length : Nat) : Int)) - ((DC.wt (.sl (v.faces.map S1)) : Nat) : Int))) (by omega) (by omega)]
  simp only [Out.bindR_ret, List.getD_cons_zero, List.getD_cons_succ, DC.bb_b, DC.ii_i, DC.ss_s, DC.ll_sl]
  by_cases c3 : (((left - ((v.desc.length : Nat) : Int)) - ((v.name.length : Nat) : Int)) - ((DC.wt (.sl (v.faces.map S1)) : Nat) : Int)) < ((DC.wt (.sl (v.fields.map TFieldDef.enc)) : Nat) : Int)
  · rw [szR_lt c3]
    simp only [show (-1 : Int) < 0 by omega, decide_true, if_true]
    try rw [szR_lt (by omega)]
  rw [szR_ge c3]
  have c3' : ¬ (((left - ((v.desc.length : Nat) : Int)) - ((v.name.length : Nat) : Int)) - ((DC.wt (.sl (v.faces.map S1)) : Nat) : Int)) - ((DC.wt (.sl (v.fields.map TFieldDef.enc)) : Nat) : Int) < 0 := by omega
  simp only [c3', decide_false, Bool.false_eq_true, if_false]
  rw [szS_InDef v.inputs ok.2.2.2.2.2.2.1 (((((left - ((v.desc.length : Nat) : Int)) - ((v.name.length : Nat) : Int)) - ((DC.wt (.sl (v.faces.map S1)) : Nat) : Int)) - ((DC.wt (.sl (v.fields.map TFieldDef.enc)) : Nat) : Int))) (by omega) (by omega)]
  simp only [Out.bindR_ret, List.getD_cons_zero, List.getD_cons_succ, DC.bb_b, DC.ii_i, DC.ss_s, DC.ll_sl]
  by_cases c4 : ((((left - ((v.desc.length : Nat) : Int)) - ((v.name.length : Nat) : Int)) - ((DC.wt (.sl (v.faces.map S1)) : Nat) : Int)) - ((DC.wt (.sl (v.fields.map TFieldDef.enc)) : Nat) : Int)) < ((DC.wt (.sl (v.inputs.map TInDef.enc)) : Nat) : Int)
  · rw [szR_lt c4]
    simp only [show (-1 : Int) < 0 by omega, decide_true, if_true]
    try rw [szR_lt (by omega)]
  rw [szR_ge c4]
  have c4' : ¬ ((((left - ((v.desc.length : Nat) : Int)) - ((v.name.length : Nat) : Int)) - ((DC.wt (.sl (v.faces.map S1)) : Nat) : Int)) - ((DC.wt (.sl (v.fields.map TFieldDef.enc)) : Nat) : Int)) - ((DC.wt (.sl (v.inputs.map TInDef.enc)) : Nat) : Int) < 0 := by omega
  simp only [c4', decide_false, Bool.false_eq_true, if_false]
  rw [szS_EnumDef v.values ok.2.2.2.2.2.2.2.1 ((((((left - ((v.desc.length : Nat) : Int)) - ((v.name.length : Nat) : Int)) - ((DC.wt (.sl (v.faces.map S1)) : Nat) : Int)) - ((DC.wt (.sl (v.fields.map TFieldDef.enc)) : Nat) : Int)) - ((DC.wt (.sl (v.inputs.map TInDef.enc)) : Nat) : Int))) (by omega) (by omega)]
  simp only [Out.bindR_ret, List.getD_cons_zero, List.getD_cons_succ, DC.bb_b, DC.ii_i, DC.ss_s, DC.ll_sl]
  by_cases c5 : (((((left - ((v.desc.length : Nat) : Int)) - ((v.name.length : Nat) : Int)) - ((DC.wt (.sl (v.faces.map S1)) : Nat) : Int)) - ((DC.wt (.sl (v.fields.map TFieldDef.enc)) : Nat) : Int)) - ((DC.wt (.sl (v.inputs.map TInDef.enc)) : Nat) : Int)) < ((DC.wt (.sl (v.values.map TEnumDef.enc)) : Nat) : Int)
  · rw [szR_lt c5]
    simp only [show (-1 : Int) < 0 by omega, decide_true, if_true]
    try rw [szR_lt (by omega)]
  rw [szR_ge c5]
  have c5' : ¬ (((((left - ((v.desc.length : Nat) : Int)) - ((v.name.length : Nat) : Int)) - ((DC.wt (.sl (v.faces.map S1)) : Nat) : Int)) - ((DC.wt (.sl (v.fields.map TFieldDef.enc)) : Nat) : Int)) - ((DC.wt (.sl (v.inputs.map TInDef.enc)) : Nat) : Int)) - ((DC.wt (.sl (v.values.map TEnumDef.enc)) : Nat) : Int) < 0 := by omega
  simp only [c5', decide_false, Bool.false_eq_true, if_false]
  rw [szS_Root v.roots ok.2.2.2.2.2.2.2.2.1 (((((((left - ((v.desc.length : Nat) : Int)) - ((v.name.length : Nat) : Int)) - ((DC.wt (.sl (v.faces.map S1)) : Nat) : Int)) - ((DC.wt (.sl (v.fields.map TFieldDef.enc)) : Nat) : Int)) - ((DC.wt (.sl (v.inputs.map TInDef.enc)) : Nat) : Int)) - ((DC.wt (.sl (v.values.map TEnumDef.enc)) : Nat) : Int))) (by omega) (by omega)]
  simp only [Out.bindR_ret, List.getD_cons_zero, List.getD_cons_succ, DC.bb_b, DC.ii_i, DC.ss_s, DC.ll_sl]
  by_cases c6 : ((((((left - ((v.desc.length : Nat) : Int)) - ((v.name.length : Nat) : Int)) - ((DC.wt (.sl (v.faces.map S1)) : Nat) : Int)) - ((DC.wt (.sl (v.fields.map TFieldDef.enc)) : Nat) : Int)) - ((DC.wt (.sl (v.inputs.map TInDef.enc)) : Nat) : Int)) - ((DC.wt (.sl (v.values.map TEnumDef.enc)) : Nat) : Int)) < ((DC.wt (.sl (v.roots.map TRoot.enc)) : Nat) : Int)
  · rw [szR_lt c6]
    simp only [show (-1 : Int) < 0 by omega, decide_true, if_true]
    try rw [szR_lt (by omega)]
  rw [szR_ge c6]
  have c6' : ¬ ((((((left - ((v.desc.length : Nat) : Int)) - ((v.name.length : Nat) : Int)) - ((DC.wt (.sl (v.faces.map S1)) : Nat) : Int)) - ((DC.wt (.sl (v.fields.map TFieldDef.enc)) : Nat) : Int)) - ((DC.wt (.sl (v.inputs.map TInDef.enc)) : Nat) : Int)) - ((DC.wt (.sl (v.values.map TEnumDef.enc)) : Nat) : Int)) - ((DC.wt (.sl (v.roots.map TRoot.enc)) : Nat) : Int) < 0 := by omega
  simp only [c6', decide_false, Bool.false_eq_true, if_false]
  rw [szS_Dir v.dirs ok.2.2.2.2.2.2.2.2.2.2.1 ((((((((left - ((v.desc.length : Nat) : Int)) - ((v.name.length : Nat) : Int)) - ((DC.wt (.sl (v.faces.map S1)) : Nat) : Int)) - ((DC.wt (.sl (v.fields.map TFieldDef.enc)) : Nat) : Int)) - ((DC.wt (.sl (v.inputs.map TInDef.enc)) : Nat) : Int)) - ((DC.wt (.sl (v.values.map TEnumDef.enc)) : Nat) : Int)) - ((DC.wt (.sl (v.roots.map TRoot.enc)) : Nat) : Int))) (by omega) (by omega)]
  simp only [Out.bindR_ret, List.getD_cons_zero, List.getD_cons_succ, DC.bb_b, DC.ii_i, DC.ss_s, DC.ll_sl]
  by_cases c7 : (((((((left - ((v.desc.length : Nat) : Int)) - ((v.name.length : Nat) : Int)) - ((DC.wt (.sl (v.faces.map S1)) : Nat) : Int)) - ((DC.wt (.sl (v.fields.map TFieldDef.enc)) : Nat) : Int)) - ((DC.wt (.sl (v.inputs.map TInDef.enc)) : Nat) : Int)) - ((DC.wt (.sl (v.values.map TEnumDef.enc)) : Nat) : Int)) - ((DC.wt (.sl (v.roots.map TRoot.enc)) : Nat) : Int)) < ((DC.wt (.sl (v.dirs.map TDir.enc)) : Nat) : Int)
  · rw [szR_lt c7]
    simp only [show (-1 : Int) < 0 by omega, decide_true, if_true]
    try rw [szR_lt (by omega)]
  rw [szR_ge c7]
  have c7' : ¬ (((((((left - ((v.desc.length : Nat) : Int)) - ((v.name.length : Nat) : Int)) - ((DC.wt (.sl (v.faces.map S1)) : Nat) : Int)) - ((DC.wt (.sl (v.fields.map TFieldDef.enc)) : Nat) : Int)) - ((DC.wt (.sl (v.inputs.map TInDef.enc)) : Nat) : Int)) - ((DC.wt (.sl (v.values.map TEnumDef.enc)) : Nat) : Int)) - ((DC.wt (.sl (v.roots.map TRoot.enc)) : Nat) : Int)) - ((DC.wt (.sl (v.dirs.map TDir.enc)) : Nat) : Int) < 0 := by omega
  simp only [c7', decide_false, Bool.false_eq_true, if_false]
  first
  | done
  | rw [show szR left (v.desc.length + v.name.length + DC.wt (.sl (v.faces.map S1)) + DC.wt (.sl (v.fields.map TFieldDef.enc)) + DC.wt (.sl (v.inputs.map TInDef.enc)) + DC.wt (.sl (v.values.map TEnumDef.enc)) + DC.wt (.sl (v.roots.map TRoot.enc)) + DC.wt (.sl (v.dirs.map TDir.enc))) = ((((((((left - ((v.desc.length : Nat) : Int)) - ((v.name.length : Nat) : Int)) - ((DC.wt (.sl (v.faces.map S1)) : Nat) : Int)) - ((DC.wt (.sl (v.fields.map TFieldDef.enc)) : Nat) : Int)) - ((DC.wt (.sl (v.inputs.map TInDef.enc)) : Nat) : Int)) - ((DC.wt (.sl (v.values.map TEnumDef.enc)) : Nat) : Int)) - ((DC.wt (.sl (v.roots.map TRoot.enc)) : Nat) : Int)) - ((DC.wt (.sl (v.dirs.map TDir.enc)) : Nat) : Int)) from (szR_ge (by omega)).trans (by omega)]
theorem szS_Def' (vs : List TDef) (hs : ∀ v ∈ vs, okL (TDef.enc v) → ∀ left : Int, 0 ≤ left → left ≤ 1048576 → r_laws_szDef [.i v.kind, .b v.ext, .s v.desc, .s v.name, .sl (v.faces.map S1), .sl (v.fields.map TFieldDef.enc), .sl (v.inputs.map TInDef.enc), .sl (v.values.map TEnumDef.enc), .sl (v.roots.map TRoot.enc), .b v.repeat', .sl (v.dirs.map TDir.enc), .i left] = .ret [.i (szR left (wtL (TDef.enc v)))]) (ok : (DC.sl (vs.map TDef.enc)).ok) (left : Int) (h0 : 0 ≤ left) (h1 : left ≤ 1048576) : r_laws_szDefS [.sl (vs.map TDef.enc), .i left] = .ret [.i (szR left (DC.wt (.sl (vs.map TDef.enc))))] := by
  rw [DC.ok, List.length_map] at ok
  obtain ⟨hl, ok⟩ := ok
  rw [eq_laws_szDefS]
  simp only [E_laws_szDefS, List.getD_cons_zero, List.getD_cons_succ, DC.bb_b, DC.ii_i, DC.ss_s, DC.ll_sl]
  refine szS_all hl (fun i hi left h0 h1 => ?_) (fun left => ?_) h0 h1
  · have key := hs vs[i] (List.getElem_mem hi) (okV_mem ok _ (List.mem_map_of_mem (List.getElem_mem hi))) left h0 h1
    generalize wtL (TDef.enc vs[i]) = w at key ⊢
    have hc1 : (i : Int) < (vs.length : Int) := by omega
    simp only [E_laws_szDefSL1, List.getD_cons_zero, List.getD_cons_succ, DC.bb_b, DC.ii_i, DC.ss_s, DC.ll_sl, Int.toNat_natCast, List.length_map, map_getD hi, TDef.enc_eq, key, Out.bindR_ret]
    by_cases hc : left < (w : Int)
    · simp [hi, hc1, hc, szR_lt hc]
    · simp [hi, hc1, hc, szR_ge hc, show ¬ left - (w : Int) < 0 by omega, wrap_succ hi hl]
  · simp [E_laws_szDefSL1]
theorem szS_Def (vs : List TDef) (ok : (DC.sl (vs.map TDef.enc)).ok) (left : Int) (h0 : 0 ≤ left) (h1 : left ≤ 1048576) : r_laws_szDefS [.sl (vs.map TDef.enc), .i left] = .ret [.i (szR left (DC.wt (.sl (vs.map TDef.enc))))] := szS_Def' vs (fun v _ => sz_Def v) ok left h0 h1
theorem to_Def (v : TDef) : wtL (TDef.enc v) ≤ 1048576 → r_laws_toDef [.i v.kind, .b v.ext, .s v.desc, .s v.name, .sl (v.faces.map S1), .sl (v.fields.map TFieldDef.enc), .sl (v.inputs.map TInDef.enc), .sl (v.values.map TEnumDef.enc), .sl (v.roots.map TRoot.enc), .b v.repeat', .sl (v.dirs.map TDir.enc)] = .ret (TDef.enc v) := by
  intro hw
  rw [wsum_Def] at hw
  rw [eq_laws_toDef]
  simp only [E_laws_toDef, List.getD_cons_zero, List.getD_cons_succ, DC.bb_b, DC.ii_i, DC.ss_s, DC.ll_sl]
  rw [toS_String v.faces (by have h := hw; simp only [DC.wt, List.length_map] at h; omega)]
  simp only [Out.bindR_ret, List.getD_cons_zero, List.getD_cons_succ, DC.bb_b, DC.ii_i, DC.ss_s, DC.ll_sl]
  rw [toS_FieldDef v.fields (by omega)]
  simp only [Out.bindR_ret, List.getD_cons_zero, List.getD_cons_succ, DC.bb_b, DC.ii_i, DC.ss_s, DC.ll_sl]
  rw [toS_InDef v.inputs (by omega)]
  simp only [Out.bindR_ret, List.getD_cons_zero, List.getD_cons_succ, DC.bb_b, DC.ii_i, DC.ss_s, DC.ll_sl]
  rw [toS_EnumDef v.values (by omega)]
  simp only [Out.bindR_ret, List.getD_cons_zero, List.getD_cons_succ, DC.bb_b, DC.ii_i, DC.ss_s, DC.ll_sl]
  rw [toS_Root v.roots (by omega)]
  simp only [Out.bindR_ret, List.getD_cons_zero, List.getD_cons_succ, DC.bb_b, DC.ii_i, DC.ss_s, DC.ll_sl]
  rw [toS_Dir v.dirs (by omega)]
  simp only [Out.bindR_ret, List.getD_cons_zero, List.getD_cons_succ, DC.bb_b, DC.ii_i, DC.ss_s, DC.ll_sl]
  rw [TDef.enc_eq]
theorem toS_Def' (vs : List TDef) (hs : ∀ v ∈ vs, wtL (TDef.enc v) ≤ 1048576 → r_laws_toDef [.i v.kind, .b v.ext, .s v.desc, .s v.name, .sl (v.faces.map S1), .sl (v.fields.map TFieldDef.enc), .sl (v.inputs.map TInDef.enc), .sl (v.values.map TEnumDef.enc), .sl (v.roots.map TRoot.enc), .b v.repeat', .sl (v.dirs.map TDir.enc)] = .ret (TDef.enc v)) (hw : DC.wt (.sl (vs.map TDef.enc)) ≤ 1048576) : r_laws_toDefS [.sl (vs.map TDef.enc)] = .ret [.sl (vs.map TDef.enc)] := by
  rw [DC.wt, List.length_map] at hw
  have hl : vs.length ≤ 1048576 := by omega
  rw [eq_laws_toDefS]
  simp only [E_laws_toDefS, List.getD_cons_zero, List.getD_cons_succ, DC.bb_b, DC.ii_i, DC.ss_s, DC.ll_sl]
  rw [if_pos ⟨by omega, by rw [List.length_map]; exact lim_of hl, trivial, by omega, by omega, rfl⟩, Int.toNat_natCast, List.length_map, show (0 : Int) = ((0 : Nat) : Int) from rfl, toS_loop hl (fun i hi cur h1 h2 => ?_) (fun cur => ?_)]
  · rfl
  · have key := hs vs[i] (List.getElem_mem hi) (by have := wtV_mem (List.mem_map_of_mem (f := TDef.enc) (List.getElem_mem hi)); omega)
    have hc1 : (i : Int) < (vs.length : Int) := by omega
    simp only [E_laws_toDefSL1, List.getD_cons_zero, List.getD_cons_succ, DC.bb_b, DC.ii_i, DC.ss_s, DC.ll_sl, Int.toNat_natCast, List.length_map, map_getD hi, h1, h2, TDef.enc_eq] at key ⊢
    simp only [key, List.getD_cons_zero, List.getD_cons_succ, DC.bb_b, DC.ii_i, DC.ss_s, DC.ll_sl, Out.bindR_ret]
    simp [hi, hc1, wrap_succ hi (show vs.length ≤ 9223372036854775807 by omega), setRunD]
  · simp [E_laws_toDefSL1]
theorem toS_Def (vs : List TDef) (hw : DC.wt (.sl (vs.map TDef.enc)) ≤ 1048576) : r_laws_toDefS [.sl (vs.map TDef.enc)] = .ret [.sl (vs.map TDef.enc)] := toS_Def' vs (fun v _ => to_Def v) hw
theorem eq_Def (v : TDef) : wtL (TDef.enc v) ≤ 1048576 → r_laws_eqDef [.i v.kind, .b v.ext, .s v.desc, .s v.name, .sl (v.faces.map S1), .sl (v.fields.map TFieldDef.enc), .sl (v.inputs.map TInDef.enc), .sl (v.values.map TEnumDef.enc), .sl (v.roots.map TRoot.enc), .b v.repeat', .sl (v.dirs.map TDir.enc), .i v.kind, .b v.ext, .s v.desc, .s v.name, .sl (v.faces.map S1), .sl (v.fields.map TFieldDef.enc), .sl (v.inputs.map TInDef.enc), .sl (v.values.map TEnumDef.enc), .sl (v.roots.map TRoot.enc), .b v.repeat', .sl (v.dirs.map TDir.enc)] = .ret [.b true] := by
  intro hw
  rw [wsum_Def] at hw
  rw [eq_laws_eqDef]
  simp only [E_laws_eqDef, List.getD_cons_zero, List.getD_cons_succ, DC.bb_b, DC.ii_i, DC.ss_s, DC.ll_sl, bne_self_eq_false, beq_self_eq_true, Bool.not_true, Bool.false_eq_true, if_false]
  rw [eqS_String v.faces (by have h := hw; simp only [DC.wt, List.length_map] at h; omega)]
  simp only [Out.bindR_ret, List.getD_cons_zero, List.getD_cons_succ, DC.bb_b, DC.ii_i, DC.ss_s, DC.ll_sl, bne_self_eq_false, beq_self_eq_true, Bool.not_true, Bool.false_eq_true, if_false]
  rw [eqS_FieldDef v.fields (by omega)]
  simp only [Out.bindR_ret, List.getD_cons_zero, List.getD_cons_succ, DC.bb_b, DC.ii_i, DC.ss_s, DC.ll_sl, bne_self_eq_false, beq_self_eq_true, Bool.not_true, Bool.false_eq_true, if_false]
  rw [eqS_InDef v.inputs (by omega)]
  simp only [Out.bindR_ret, List.getD_cons_zero, List.getD_cons_succ, DC.bb_b, DC.ii_i, DC.ss_s, DC.ll_sl, bne_self_eq_false, beq_self_eq_true, Bool.not_true, Bool.false_eq_true, if_false]
  rw [eqS_EnumDef v.values (by omega)]
  simp only [Out.bindR_ret, List.getD_cons_zero, List.getD_cons_succ, DC.bb_b, DC.ii_i, DC.ss_s, DC.ll_sl, bne_self_eq_false, beq_self_eq_true, Bool.not_true, Bool.false_eq_true, if_false]
  rw [eqS_Root v.roots (by omega)]
  simp only [Out.bindR_ret, List.getD_cons_zero, List.getD_cons_succ, DC.bb_b, DC.ii_i, DC.ss_s, DC.ll_sl, bne_self_eq_false, beq_self_eq_true, Bool.not_true, Bool.false_eq_true, if_false]
  rw [eqS_Dir v.dirs (by omega)]
  simp only [Out.bindR_ret, List.getD_cons_zero, List.getD_cons_succ, DC.bb_b, DC.ii_i, DC.ss_s, DC.ll_sl, bne_self_eq_false, beq_self_eq_true, Bool.not_true, Bool.false_eq_true, if_false]
theorem eqS_Def' (vs : List TDef) (hs : ∀ v ∈ vs, wtL (TDef.enc v) ≤ 1048576 → r_laws_eqDef [.i v.kind, .b v.ext, .s v.desc, .s v.name, .sl (v.faces.map S1), .sl (v.fields.map TFieldDef.enc), .sl (v.inputs.map TInDef.enc), .sl (v.values.map TEnumDef.enc), .sl (v.roots.map TRoot.enc), .b v.repeat', .sl (v.dirs.map TDir.enc), .i v.kind, .b v.ext, .s v.desc, .s v.name, .sl (v.faces.map S1), .sl (v.fields.map TFieldDef.enc), .sl (v.inputs.map TInDef.enc), .sl (v.values.map TEnumDef.enc), .sl (v.roots.map TRoot.enc), .b v.repeat', .sl (v.dirs.map TDir.enc)] = .ret [.b true]) (hw : DC.wt (.sl (vs.map TDef.enc)) ≤ 1048576) : r_laws_eqDefS [.sl (vs.map TDef.enc), .sl (vs.map TDef.enc)] = .ret [.b true] := by
  rw [DC.wt, List.length_map] at hw
  have hl : vs.length ≤ 1048576 := by omega
  rw [eq_laws_eqDefS]
  simp only [E_laws_eqDefS, List.getD_cons_zero, List.getD_cons_succ, DC.bb_b, DC.ii_i, DC.ss_s, DC.ll_sl]
  refine eqS_all (fun i hi => ?_) ?_
  · rw [List.length_map] at hi
    have key := hs vs[i] (List.getElem_mem hi) (by have := wtV_mem (List.mem_map_of_mem (f := TDef.enc) (List.getElem_mem hi)); omega)
    have hc1 : (i : Int) < (vs.length : Int) := by omega
    simp only [E_laws_eqDefSL1, List.getD_cons_zero, List.getD_cons_succ, DC.bb_b, DC.ii_i, DC.ss_s, DC.ll_sl, Int.toNat_natCast, List.length_map, map_getD hi, TDef.enc_eq] at key ⊢
    simp only [key, List.getD_cons_zero, List.getD_cons_succ, DC.bb_b, DC.ii_i, DC.ss_s, DC.ll_sl, Out.bindR_ret]
    simp [hi, hc1, wrap_succ hi (show vs.length ≤ 9223372036854775807 by omega)]
  · simp [E_laws_eqDefSL1]
theorem eqS_Def (vs : List TDef) (hw : DC.wt (.sl (vs.map TDef.enc)) ≤ 1048576) : r_laws_eqDefS [.sl (vs.map TDef.enc), .sl (vs.map TDef.enc)] = .ret [.b true] := eqS_Def' vs (fun v _ => eq_Def v) hw
theorem wsum_Schema (v : TSchema) : wtL (TSchema.enc v) = DC.wt (.sl (v.types.map TDef.enc)) + DC.wt (.sl (v.dirs.map TDef.enc)) + DC.wt (.sl (v.roots.map TRoot.enc)) := by
  simp only [TSchema.enc_eq, wtL, DC.wt]
  try omega
theorem sz_Schema (v : TSchema) : okL (TSchema.enc v) → ∀ left : Int, 0 ≤ left → left ≤ 1048576 → r_laws_szSchema [.sl (v.types.map TDef.enc), .sl (v.dirs.map TDef.enc), .sl (v.roots.map TRoot.enc), .i left] = .ret [.i (szR left (wtL (TSchema.enc v)))] := by
  intro ok left h0 h1
  rw [TSchema.enc_eq] at ok
  simp only [okL] at ok
  rw [eq_laws_szSchema]
  simp only [E_laws_szSchema, List.getD_cons_zero, List.getD_cons_succ, DC.bb_b, DC.ii_i, DC.ss_s, DC.ll_sl]
  rw [wsum_Schema]
  rw [szS_Def v.types ok.1 (left) (by omega) (by omega)]
  simp only [Out.bindR_ret, List.getD_cons_zero, List.getD_cons_succ, DC.bb_b, DC.ii_i, DC.ss_s, DC.ll_sl]
  by_cases c0 : left < ((DC.wt (.sl (v.types.map TDef.enc)) : Nat) : Int)
  · rw [szR_lt c0]
    simp only [show (-1 : Int) < 0 by omega, decide_true, if_true]
    try rw [szR_lt (by omega)]
  rw [szR_ge c0]
  have c0' : ¬ left - ((DC.wt (.sl (v.types.map TDef.enc)) : Nat) : Int) < 0 := by omega
  simp only [c0', decide_false, Bool.false_eq_true, if_false]
  rw [szS_Def v.dirs ok.2.1 ((left - ((DC.wt (.sl (v.types.map TDef.enc)) : Nat) : Int))) (by omega) (by omega)]
  simp only [Out.bindR_ret, List.getD_cons_zero, List.getD_cons_succ, DC.bb_b, DC.ii_i, DC.ss_s, DC.ll_sl]
  by_cases c1 : (left - ((DC.wt (.sl (v.types.map TDef.enc)) : Nat) : Int)) < ((DC.wt (.sl (v.dirs.map TDef.enc)) : Nat) : Int)
  · rw [szR_lt c1]
    simp only [show (-1 : Int) < 0 by omega, decide_true, if_true]
    try rw [szR_lt (by omega)]
  rw [szR_ge c1]
  have c1' : ¬ (left - ((DC.wt (.sl (v.types.map TDef.enc)) : Nat) : Int)) - ((DC.wt (.sl (v.dirs.map TDef.enc)) : Nat) : Int) < 0 := by omega
  simp only [c1', decide_false, Bool.false_eq_true, if_false]
  rw [szS_Root v.roots ok.2.2.1 (((left - ((DC.wt (.sl (v.types.map TDef.enc)) : Nat) : Int)) - ((DC.wt (.sl (v.dirs.map TDef.enc)) : Nat) : Int))) (by omega) (by omega)]
  simp only [Out.bindR_ret, List.getD_cons_zero, List.getD_cons_succ, DC.bb_b, DC.ii_i, DC.ss_s, DC.ll_sl]
  by_cases c2 : ((left - ((DC.wt (.sl (v.types.map TDef.enc)) : Nat) : Int)) - ((DC.wt (.sl (v.dirs.map TDef.enc)) : Nat) : Int)) < ((DC.wt (.sl (v.roots.map TRoot.enc)) : Nat) : Int)
  · rw [szR_lt c2]
    simp only [show (-1 : Int) < 0 by omega, decide_true, if_true]
    try rw [szR_lt (by omega)]
  rw [szR_ge c2]
  have c2' : ¬ ((left - ((DC.wt (.sl (v.types.map TDef.enc)) : Nat) : Int)) - ((DC.wt (.sl (v.dirs.map TDef.enc)) : Nat) : Int)) - ((DC.wt (.sl (v.roots.map TRoot.enc)) : Nat) : Int) < 0 := by omega
  simp only [c2', decide_false, Bool.false_eq_true, if_false]
  first
  | done
  | rw [show szR left (DC.wt (.sl (v.types.map TDef.enc)) + DC.wt (.sl (v.dirs.map TDef.enc)) + DC.wt (.sl (v.roots.map TRoot.enc))) = (((left - ((DC.wt (.sl (v.types.map TDef.enc)) : Nat) : Int)) - ((DC.wt (.sl (v.dirs.map TDef.enc)) : Nat) : Int)) - ((DC.wt (.sl (v.roots.map TRoot.enc)) : Nat) : Int)) from (szR_ge (by omega)).trans (by omega)]
theorem to_Schema (v : TSchema) : wtL (TSchema.enc v) ≤ 1048576 → r_laws_toSchema [.sl (v.types.map TDef.enc), .sl (v.dirs.map TDef.enc), .sl (v.roots.map TRoot.enc)] = .ret (TSchema.enc v) := by
  intro hw
  rw [wsum_Schema] at hw
  rw [eq_laws_toSchema]
  simp only [E_laws_toSchema, List.getD_cons_zero, List.getD_cons_succ, DC.bb_b, DC.ii_i, DC.ss_s, DC.ll_sl]
  rw [toS_Def v.types (by omega)]
  simp only [Out.bindR_ret, List.getD_cons_zero, List.getD_cons_succ, DC.bb_b, DC.ii_i, DC.ss_s, DC.ll_sl]
  rw [toS_Def v.dirs (by omega)]
  simp only [Out.bindR_ret, List.getD_cons_zero, List.getD_cons_succ, DC.bb_b, DC.ii_i, DC.ss_s, DC.ll_sl]
  rw [toS_Root v.roots (by omega)]
  simp only [Out.bindR_ret, List.getD_cons_zero, List.getD_cons_succ, DC.bb_b, DC.ii_i, DC.ss_s, DC.ll_sl]
  rw [TSchema.enc_eq]
theorem eq_Schema (v : TSchema) : wtL (TSchema.enc v) ≤ 1048576 → r_laws_eqSchema [.sl (v.types.map TDef.enc), .sl (v.dirs.map TDef.enc), .sl (v.roots.map TRoot.enc), .sl (v.types.map TDef.enc), .sl (v.dirs.map TDef.enc), .sl (v.roots.map TRoot.enc)] = .ret [.b true] := by
  intro hw
  rw [wsum_Schema] at hw
  rw [eq_laws_eqSchema]
  simp only [E_laws_eqSchema, List.getD_cons_zero, List.getD_cons_succ, DC.bb_b, DC.ii_i, DC.ss_s, DC.ll_sl, bne_self_eq_false, beq_self_eq_true, Bool.not_true, Bool.false_eq_true, if_false]
  rw [eqS_Def v.types (by omega)]
  simp only [Out.bindR_ret, List.getD_cons_zero, List.getD_cons_succ, DC.bb_b, DC.ii_i, DC.ss_s, DC.ll_sl, bne_self_eq_false, beq_self_eq_true, Bool.not_true, Bool.false_eq_true, if_false]
  rw [eqS_Def v.dirs (by omega)]
  simp only [Out.bindR_ret, List.getD_cons_zero, List.getD_cons_succ, DC.bb_b, DC.ii_i, DC.ss_s, DC.ll_sl, bne_self_eq_false, beq_self_eq_true, Bool.not_true, Bool.false_eq_true, if_false]
  rw [eqS_Root v.roots (by omega)]
  simp only [Out.bindR_ret, List.getD_cons_zero, List.getD_cons_succ, DC.bb_b, DC.ii_i, DC.ss_s, DC.ll_sl, bne_self_eq_false, beq_self_eq_true, Bool.not_true, Bool.false_eq_true, if_false]
theorem mh_String (v : (List UInt8)) : ∀ k : Int, 0 ≤ k → k + 30 * ((1 + wtL (S1 v) : Nat) : Int) < 4611686018427387904 → ∃ (x' : (List UInt8)) (k' : Int), (MarkRow mT mTab ms30 S1 v k x' k' ∧ (∀ (l : List (List DC)) (i : Nat), i < l.length → l.length ≤ 9223372036854775807 → l.getD i [] = S1 x' → E_laws_heldStringSL1 [.sl l, .i k, .i (i : Int)] = .norm [.sl l, .i k', .i ((i + 1 : Nat) : Int)])) ∧ k ≤ k' ∧ k' ≤ k + 30 * ((1 + wtL (S1 v) : Nat) : Int) := by
  intro k h0 hk
  refine ⟨mtx (k), k + 1, ⟨⟨0, fun m hm r => ?_⟩, ?_⟩, by omega, by omega⟩
  · refine ⟨r, ?_⟩
    unfold S1
    refine rowActs_txt (s := mtx (k)) rfl (rowActs_inc (by omega) ?_)
    exact rfl
  · intro l i hi hl hg
    have m0 : E_laws_markText [.i (k)] = .ret [.s (mtx (k))] := mtx_eq (by omega) (by omega)
    have w0 : IntKind.i64.wrap (k + 1) = k + 1 := wrap64 (by omega) (by omega)
    have hc1 : (i : Int) < (l.length : Int) := by omega
    simp only [E_laws_heldStringSL1, List.getD_cons_zero, List.getD_cons_succ, DC.bb_b, DC.ii_i, DC.ss_s, DC.ll_sl, Int.toNat_natCast, hg, S1, m0, w0, eq_laws_markText, Out.bindR_ret]
    simp [hi, hc1, wrap_succ hi hl, m0, w0]
theorem mhS_String' (vs : List (List UInt8)) (hs : ∀ v ∈ vs, ∀ k : Int, 0 ≤ k → k + 30 * ((1 + wtL (S1 v) : Nat) : Int) < 4611686018427387904 → ∃ (x' : (List UInt8)) (k' : Int), (MarkRow mT mTab ms30 S1 v k x' k' ∧ (∀ (l : List (List DC)) (i : Nat), i < l.length → l.length ≤ 9223372036854775807 → l.getD i [] = S1 x' → E_laws_heldStringSL1 [.sl l, .i k, .i (i : Int)] = .norm [.sl l, .i k', .i ((i + 1 : Nat) : Int)])) ∧ k ≤ k' ∧ k' ≤ k + 30 * ((1 + wtL (S1 v) : Nat) : Int)) (k : Int) (h0 : 0 ≤ k) (hk : k + 30 * ((DC.wt (.sl (vs.map S1)) : Nat) : Int) < 4611686018427387904) : ∃ (vs' : List (List UInt8)) (k' : Int), Mk mT mTab 30 (vs.map S1) k (vs'.map S1) k' ∧ k ≤ k' ∧ k' ≤ k + 30 * ((DC.wt (.sl (vs.map S1)) : Nat) : Int) ∧ r_laws_heldStringS [.sl (vs'.map S1), .i k] = .ret [.i k'] := by
  obtain ⟨vs', k', m, b1, b2, c⟩ := mark_all (Q := fun k x' k' => ∀ (l : List (List DC)) (i : Nat), i < l.length → l.length ≤ 9223372036854775807 → l.getD i [] = S1 x' → E_laws_heldStringSL1 [.sl l, .i k, .i (i : Int)] = .norm [.sl l, .i k', .i ((i + 1 : Nat) : Int)]) (f := 30) (ms := ms30) rfl vs hs h0 hk
  refine ⟨vs', k', m, b1, b2, ?_⟩
  have hl : vs.length ≤ DC.wt (.sl (vs.map S1)) := by simp [DC.wt]
  have hc := c.len
  have key : Loop E_laws_heldStringSL1 [.sl (vs'.map S1), .i k, .i (0 : Int)] = .ex 0 [.i k'] := held_loop c (fun l k => by simp [E_laws_heldStringSL1]) [] (by simp only [List.length_nil]; omega)
  rw [eq_laws_heldStringS]
  simp only [E_laws_heldStringS, List.getD_cons_zero, List.getD_cons_succ, DC.bb_b, DC.ii_i, DC.ss_s, DC.ll_sl, key, Out.andThenB]
  rfl
theorem mhS_String (vs : List (List UInt8)) (k : Int) (h0 : 0 ≤ k) (hk : k + 30 * ((DC.wt (.sl (vs.map S1)) : Nat) : Int) < 4611686018427387904) : ∃ (vs' : List (List UInt8)) (k' : Int), Mk mT mTab 30 (vs.map S1) k (vs'.map S1) k' ∧ k ≤ k' ∧ k' ≤ k + 30 * ((DC.wt (.sl (vs.map S1)) : Nat) : Int) ∧ r_laws_heldStringS [.sl (vs'.map S1), .i k] = .ret [.i k'] := mhS_String' vs (fun v _ => mh_String v) k h0 hk
theorem mhS_Value' (vs : List TValue) (hs : ∀ v ∈ vs, ∀ k : Int, 0 ≤ k → k + 30 * ((1 + wtL (TValue.enc v) : Nat) : Int) < 4611686018427387904 → ∃ (x' : TValue) (k' : Int), (MarkRow mT mTab ms99 TValue.enc v k x' k' ∧ (∀ (l : List (List DC)) (i : Nat), i < l.length → l.length ≤ 9223372036854775807 → l.getD i [] = TValue.enc x' → E_laws_heldValueSL1 [.sl l, .i k, .i (i : Int)] = .norm [.sl l, .i k', .i ((i + 1 : Nat) : Int)])) ∧ k ≤ k' ∧ k' ≤ k + 30 * ((1 + wtL (TValue.enc v) : Nat) : Int)) (k : Int) (h0 : 0 ≤ k) (hk : k + 30 * ((DC.wt (.sl (vs.map TValue.enc)) : Nat) : Int) < 4611686018427387904) : ∃ (vs' : List TValue) (k' : Int), Mk mT mTab 99 (vs.map TValue.enc) k (vs'.map TValue.enc) k' ∧ k ≤ k' ∧ k' ≤ k + 30 * ((DC.wt (.sl (vs.map TValue.enc)) : Nat) : Int) ∧ r_laws_heldValueS [.sl (vs'.map TValue.enc), .i k] = .ret [.i k'] := by
  obtain ⟨vs', k', m, b1, b2, c⟩ := mark_all (Q := fun k x' k' => ∀ (l : List (List DC)) (i : Nat), i < l.length → l.length ≤ 9223372036854775807 → l.getD i [] = TValue.enc x' → E_laws_heldValueSL1 [.sl l, .i k, .i (i : Int)] = .norm [.sl l, .i k', .i ((i + 1 : Nat) : Int)]) (f := 99) (ms := ms99) rfl vs hs h0 hk
  refine ⟨vs', k', m, b1, b2, ?_⟩
  have hl : vs.length ≤ DC.wt (.sl (vs.map TValue.enc)) := by simp [DC.wt]
  have hc := c.len
  have key : Loop E_laws_heldValueSL1 [.sl (vs'.map TValue.enc), .i k, .i (0 : Int)] = .ex 0 [.i k'] := held_loop c (fun l k => by simp [E_laws_heldValueSL1]) [] (by simp only [List.length_nil]; omega)
  rw [eq_laws_heldValueS]
  simp only [E_laws_heldValueS, List.getD_cons_zero, List.getD_cons_succ, DC.bb_b, DC.ii_i, DC.ss_s, DC.ll_sl, key, Out.andThenB]
  rfl
theorem mh_Value (v : TValue) : ∀ k : Int, 0 ≤ k → k + 30 * ((1 + wtL (TValue.enc v) : Nat) : Int) < 4611686018427387904 → ∃ (x' : TValue) (k' : Int), (MarkRow mT mTab ms99 TValue.enc v k x' k' ∧ (∀ (l : List (List DC)) (i : Nat), i < l.length → l.length ≤ 9223372036854775807 → l.getD i [] = TValue.enc x' → E_laws_heldValueSL1 [.sl l, .i k, .i (i : Int)] = .norm [.sl l, .i k', .i ((i + 1 : Nat) : Int)])) ∧ k ≤ k' ∧ k' ≤ k + 30 * ((1 + wtL (TValue.enc v) : Nat) : Int) := by
  induction v using TValue.ind with | h v ih =>
  intro k h0 hk
  rw [wsum_Value] at hk
  rw [wsum_Value]
  obtain ⟨a2, k2, ⟨n2, e2⟩, b2, c2, h2⟩ := mhS_Value' v.items (fun x hx => ih x hx) (k + 1 + 1) (by omega) (by omega)
  obtain ⟨a3, k3, ⟨n3, e3⟩, b3, c3, h3⟩ := mhS_String v.names (k2) (by omega) (by omega)
  refine ⟨⟨k, mtx (k + 1), a2, a3⟩, k3, ⟨⟨n2 + n3, fun m hm r => ?_⟩, ?_⟩, by omega, by omega⟩
  · refine ⟨k3, ?_⟩
    rw [TValue.enc_eq, TValue.enc_eq]
    refine rowActs_int (rowActs_inc (by omega) ?_)
    refine rowActs_txt (s := mtx (k + 1)) rfl (rowActs_inc (by omega) ?_)
    refine rowActs_sub (l := v.items.map TValue.enc) rfl (mkF_up (by omega) e2) (rowActs_upd ⟨by omega, by omega⟩ ?_)
    refine rowActs_sub (l := v.names.map S1) rfl (mkF_up (by omega) e3) (rowActs_upd ⟨by omega, by omega⟩ ?_)
    exact rfl
  · intro l i hi hl hg
    have w0 : IntKind.i64.wrap (k + 1) = k + 1 := wrap64 (by omega) (by omega)
    have m1 : E_laws_markText [.i (k + 1)] = .ret [.s (mtx (k + 1))] := mtx_eq (by omega) (by omega)
    have w1 : IntKind.i64.wrap (k + 1 + 1) = k + 1 + 1 := wrap64 (by omega) (by omega)
    have g2 : ¬ k2 < 0 := by omega
    have g3 : ¬ k3 < 0 := by omega
    have hc1 : (i : Int) < (l.length : Int) := by omega
    simp only [E_laws_heldValueSL1, List.getD_cons_zero, List.getD_cons_succ, DC.bb_b, DC.ii_i, DC.ss_s, DC.ll_sl, Int.toNat_natCast, hg, TValue.enc_eq, w0, m1, w1, h2, h3, eq_laws_markText, Out.bindR_ret]
    simp [hi, hc1, wrap_succ hi hl, g2, g3, w0, m1, w1, h2, h3]
theorem mhS_Value (vs : List TValue) (k : Int) (h0 : 0 ≤ k) (hk : k + 30 * ((DC.wt (.sl (vs.map TValue.enc)) : Nat) : Int) < 4611686018427387904) : ∃ (vs' : List TValue) (k' : Int), Mk mT mTab 99 (vs.map TValue.enc) k (vs'.map TValue.enc) k' ∧ k ≤ k' ∧ k' ≤ k + 30 * ((DC.wt (.sl (vs.map TValue.enc)) : Nat) : Int) ∧ r_laws_heldValueS [.sl (vs'.map TValue.enc), .i k] = .ret [.i k'] := mhS_Value' vs (fun v _ => mh_Value v) k h0 hk
theorem mh_Arg (v : TArg) : ∀ k : Int, 0 ≤ k → k + 30 * ((1 + wtL (TArg.enc v) : Nat) : Int) < 4611686018427387904 → ∃ (x' : TArg) (k' : Int), (MarkRow mT mTab ms100 TArg.enc v k x' k' ∧ (∀ (l : List (List DC)) (i : Nat), i < l.length → l.length ≤ 9223372036854775807 → l.getD i [] = TArg.enc x' → E_laws_heldArgSL1 [.sl l, .i k, .i (i : Int)] = .norm [.sl l, .i k', .i ((i + 1 : Nat) : Int)])) ∧ k ≤ k' ∧ k' ≤ k + 30 * ((1 + wtL (TArg.enc v) : Nat) : Int) := by
  intro k h0 hk
  rw [wsum_Arg, wsum_Value] at hk
  rw [wsum_Arg, wsum_Value]
  obtain ⟨a3, k3, ⟨n3, e3⟩, b3, c3, h3⟩ := mhS_Value v.value.items (k + 1 + 1 + 1) (by omega) (by omega)
  obtain ⟨a4, k4, ⟨n4, e4⟩, b4, c4, h4⟩ := mhS_String v.value.names (k3) (by omega) (by omega)
  refine ⟨⟨mtx (k), ⟨k + 1, mtx (k + 1 + 1), a3, a4⟩⟩, k4, ⟨⟨n3 + n4, fun m hm r => ?_⟩, ?_⟩, by omega, by omega⟩
  · refine ⟨k4, ?_⟩
    rw [TArg.enc_eq, TArg.enc_eq]
    refine rowActs_txt (s := mtx (k)) rfl (rowActs_inc (by omega) ?_)
    refine rowActs_int (rowActs_inc (by omega) ?_)
    refine rowActs_txt (s := mtx (k + 1 + 1)) rfl (rowActs_inc (by omega) ?_)
    refine rowActs_sub (l := v.value.items.map TValue.enc) rfl (mkF_up (by omega) e3) (rowActs_upd ⟨by omega, by omega⟩ ?_)
    refine rowActs_sub (l := v.value.names.map S1) rfl (mkF_up (by omega) e4) (rowActs_upd ⟨by omega, by omega⟩ ?_)
    exact rfl
  · intro l i hi hl hg
    have m0 : E_laws_markText [.i (k)] = .ret [.s (mtx (k))] := mtx_eq (by omega) (by omega)
    have w0 : IntKind.i64.wrap (k + 1) = k + 1 := wrap64 (by omega) (by omega)
    have w1 : IntKind.i64.wrap (k + 1 + 1) = k + 1 + 1 := wrap64 (by omega) (by omega)
    have m2 : E_laws_markText [.i (k + 1 + 1)] = .ret [.s (mtx (k + 1 + 1))] := mtx_eq (by omega) (by omega)
    have w2 : IntKind.i64.wrap (k + 1 + 1 + 1) = k + 1 + 1 + 1 := wrap64 (by omega) (by omega)
    have g3 : ¬ k3 < 0 := by omega
    have g4 : ¬ k4 < 0 := by omega
    have hc1 : (i : Int) < (l.length : Int) := by omega
    simp only [E_laws_heldArgSL1, List.getD_cons_zero, List.getD_cons_succ, DC.bb_b, DC.ii_i, DC.ss_s, DC.ll_sl, Int.toNat_natCast, hg, TArg.enc_eq, m0, w0, w1, m2, w2, h3, h4, eq_laws_markText, Out.bindR_ret]
    simp [hi, hc1, wrap_succ hi hl, g3, g4, m0, w0, w1, m2, w2, h3, h4]
theorem mhS_Arg' (vs : List TArg) (hs : ∀ v ∈ vs, ∀ k : Int, 0 ≤ k → k + 30 * ((1 + wtL (TArg.enc v) : Nat) : Int) < 4611686018427387904 → ∃ (x' : TArg) (k' : Int), (MarkRow mT mTab ms100 TArg.enc v k x' k' ∧ (∀ (l : List (List DC)) (i : Nat), i < l.length → l.length ≤ 9223372036854775807 → l.getD i [] = TArg.enc x' → E_laws_heldArgSL1 [.sl l, .i k, .i (i : Int)] = .norm [.sl l, .i k', .i ((i + 1 : Nat) : Int)])) ∧ k ≤ k' ∧ k' ≤ k + 30 * ((1 + wtL (TArg.enc v) : Nat) : Int)) (k : Int) (h0 : 0 ≤ k) (hk : k + 30 * ((DC.wt (.sl (vs.map TArg.enc)) : Nat) : Int) < 4611686018427387904) : ∃ (vs' : List TArg) (k' : Int), Mk mT mTab 100 (vs.map TArg.enc) k (vs'.map TArg.enc) k' ∧ k ≤ k' ∧ k' ≤ k + 30 * ((DC.wt (.sl (vs.map TArg.enc)) : Nat) : Int) ∧ r_laws_heldArgS [.sl (vs'.map TArg.enc), .i k] = .ret [.i k'] := by
  obtain ⟨vs', k', m, b1, b2, c⟩ := mark_all (Q := fun k x' k' => ∀ (l : List (List DC)) (i : Nat), i < l.length → l.length ≤ 9223372036854775807 → l.getD i [] = TArg.enc x' → E_laws_heldArgSL1 [.sl l, .i k, .i (i : Int)] = .norm [.sl l, .i k', .i ((i + 1 : Nat) : Int)]) (f := 100) (ms := ms100) rfl vs hs h0 hk
  refine ⟨vs', k', m, b1, b2, ?_⟩
  have hl : vs.length ≤ DC.wt (.sl (vs.map TArg.enc)) := by simp [DC.wt]
  have hc := c.len
  have key : Loop E_laws_heldArgSL1 [.sl (vs'.map TArg.enc), .i k, .i (0 : Int)] = .ex 0 [.i k'] := held_loop c (fun l k => by simp [E_laws_heldArgSL1]) [] (by simp only [List.length_nil]; omega)
  rw [eq_laws_heldArgS]
  simp only [E_laws_heldArgS, List.getD_cons_zero, List.getD_cons_succ, DC.bb_b, DC.ii_i, DC.ss_s, DC.ll_sl, key, Out.andThenB]
  rfl
theorem mhS_Arg (vs : List TArg) (k : Int) (h0 : 0 ≤ k) (hk : k + 30 * ((DC.wt (.sl (vs.map TArg.enc)) : Nat) : Int) < 4611686018427387904) : ∃ (vs' : List TArg) (k' : Int), Mk mT mTab 100 (vs.map TArg.enc) k (vs'.map TArg.enc) k' ∧ k ≤ k' ∧ k' ≤ k + 30 * ((DC.wt (.sl (vs.map TArg.enc)) : Nat) : Int) ∧ r_laws_heldArgS [.sl (vs'.map TArg.enc), .i k] = .ret [.i k'] := mhS_Arg' vs (fun v _ => mh_Arg v) k h0 hk
theorem mh_Dir (v : TDir) : ∀ k : Int, 0 ≤ k → k + 30 * ((1 + wtL (TDir.enc v) : Nat) : Int) < 4611686018427387904 → ∃ (x' : TDir) (k' : Int), (MarkRow mT mTab ms49 TDir.enc v k x' k' ∧ (∀ (l : List (List DC)) (i : Nat), i < l.length → l.length ≤ 9223372036854775807 → l.getD i [] = TDir.enc x' → E_laws_heldDirSL1 [.sl l, .i k, .i (i : Int)] = .norm [.sl l, .i k', .i ((i + 1 : Nat) : Int)])) ∧ k ≤ k' ∧ k' ≤ k + 30 * ((1 + wtL (TDir.enc v) : Nat) : Int) := by
  intro k h0 hk
  rw [wsum_Dir] at hk
  rw [wsum_Dir]
  obtain ⟨a1, k1, ⟨n1, e1⟩, b1, c1, h1⟩ := mhS_Arg v.args (k + 1) (by omega) (by omega)
  refine ⟨⟨mtx (k), a1⟩, k1, ⟨⟨n1, fun m hm r => ?_⟩, ?_⟩, by omega, by omega⟩
  · refine ⟨k1, ?_⟩
    rw [TDir.enc_eq, TDir.enc_eq]
    refine rowActs_txt (s := mtx (k)) rfl (rowActs_inc (by omega) ?_)
    refine rowActs_sub (l := v.args.map TArg.enc) rfl (mkF_up (by omega) e1) (rowActs_upd ⟨by omega, by omega⟩ ?_)
    exact rfl
  · intro l i hi hl hg
    have m0 : E_laws_markText [.i (k)] = .ret [.s (mtx (k))] := mtx_eq (by omega) (by omega)
    have w0 : IntKind.i64.wrap (k + 1) = k + 1 := wrap64 (by omega) (by omega)
    have g1 : ¬ k1 < 0 := by omega
    have hc1 : (i : Int) < (l.length : Int) := by omega
    simp only [E_laws_heldDirSL1, List.getD_cons_zero, List.getD_cons_succ, DC.bb_b, DC.ii_i, DC.ss_s, DC.ll_sl, Int.toNat_natCast, hg, TDir.enc_eq, m0, w0, h1, eq_laws_markText, Out.bindR_ret]
    simp [hi, hc1, wrap_succ hi hl, g1, m0, w0, h1]
theorem mhS_Dir' (vs : List TDir) (hs : ∀ v ∈ vs, ∀ k : Int, 0 ≤ k → k + 30 * ((1 + wtL (TDir.enc v) : Nat) : Int) < 4611686018427387904 → ∃ (x' : TDir) (k' : Int), (MarkRow mT mTab ms49 TDir.enc v k x' k' ∧ (∀ (l : List (List DC)) (i : Nat), i < l.length → l.length ≤ 9223372036854775807 → l.getD i [] = TDir.enc x' → E_laws_heldDirSL1 [.sl l, .i k, .i (i : Int)] = .norm [.sl l, .i k', .i ((i + 1 : Nat) : Int)])) ∧ k ≤ k' ∧ k' ≤ k + 30 * ((1 + wtL (TDir.enc v) : Nat) : Int)) (k : Int) (h0 : 0 ≤ k) (hk : k + 30 * ((DC.wt (.sl (vs.map TDir.enc)) : Nat) : Int) < 4611686018427387904) : ∃ (vs' : List TDir) (k' : Int), Mk mT mTab 49 (vs.map TDir.enc) k (vs'.map TDir.enc) k' ∧ k ≤ k' ∧ k' ≤ k + 30 * ((DC.wt (.sl (vs.map TDir.enc)) : Nat) : Int) ∧ r_laws_heldDirS [.sl (vs'.map TDir.enc), .i k] = .ret [.i k'] := by
  obtain ⟨vs', k', m, b1, b2, c⟩ := mark_all (Q := fun k x' k' => ∀ (l : List (List DC)) (i : Nat), i < l.length → l.length ≤ 9223372036854775807 → l.getD i [] = TDir.enc x' → E_laws_heldDirSL1 [.sl l, .i k, .i (i : Int)] = .norm [.sl l, .i k', .i ((i + 1 : Nat) : Int)]) (f := 49) (ms := ms49) rfl vs hs h0 hk
  refine ⟨vs', k', m, b1, b2, ?_⟩
  have hl : vs.length ≤ DC.wt (.sl (vs.map TDir.enc)) := by simp [DC.wt]
  have hc := c.len
  have key : Loop E_laws_heldDirSL1 [.sl (vs'.map TDir.enc), .i k, .i (0 : Int)] = .ex 0 [.i k'] := held_loop c (fun l k => by simp [E_laws_heldDirSL1]) [] (by simp only [List.length_nil]; omega)
  rw [eq_laws_heldDirS]
  simp only [E_laws_heldDirS, List.getD_cons_zero, List.getD_cons_succ, DC.bb_b, DC.ii_i, DC.ss_s, DC.ll_sl, key, Out.andThenB]
  rfl
theorem mhS_Dir (vs : List TDir) (k : Int) (h0 : 0 ≤ k) (hk : k + 30 * ((DC.wt (.sl (vs.map TDir.enc)) : Nat) : Int) < 4611686018427387904) : ∃ (vs' : List TDir) (k' : Int), Mk mT mTab 49 (vs.map TDir.enc) k (vs'.map TDir.enc) k' ∧ k ≤ k' ∧ k' ≤ k + 30 * ((DC.wt (.sl (vs.map TDir.enc)) : Nat) : Int) ∧ r_laws_heldDirS [.sl (vs'.map TDir.enc), .i k] = .ret [.i k'] := mhS_Dir' vs (fun v _ => mh_Dir v) k h0 hk
theorem mh_InDef (v : TInDef) : ∀ k : Int, 0 ≤ k → k + 30 * ((1 + wtL (TInDef.enc v) : Nat) : Int) < 4611686018427387904 → ∃ (x' : TInDef) (k' : Int), (MarkRow mT mTab ms48 TInDef.enc v k x' k' ∧ (∀ (l : List (List DC)) (i : Nat), i < l.length → l.length ≤ 9223372036854775807 → l.getD i [] = TInDef.enc x' → E_laws_heldInDefSL1 [.sl l, .i k, .i (i : Int)] = .norm [.sl l, .i k', .i ((i + 1 : Nat) : Int)])) ∧ k ≤ k' ∧ k' ≤ k + 30 * ((1 + wtL (TInDef.enc v) : Nat) : Int) := by
  intro k h0 hk
  rw [wsum_InDef, wsum_Type, wsum_Value] at hk
  rw [wsum_InDef, wsum_Type, wsum_Value]
  obtain ⟨a7, k7, ⟨n7, e7⟩, b7, c7, h7⟩ := mhS_Value v.default'.items (k + 1 + 1 + 1 + 1 + 1 + 1 + 1) (by omega) (by omega)
  obtain ⟨a8, k8, ⟨n8, e8⟩, b8, c8, h8⟩ := mhS_String v.default'.names (k7) (by omega) (by omega)
  obtain ⟨a9, k9, ⟨n9, e9⟩, b9, c9, h9⟩ := mhS_Dir v.dirs (k8) (by omega) (by omega)
  refine ⟨⟨mtx (k), mtx (k + 1), ⟨mtx (k + 1 + 1), mtx (k + 1 + 1 + 1)⟩, (k + 1 + 1 + 1 + 1) % 3 == 0, ⟨k + 1 + 1 + 1 + 1 + 1, mtx (k + 1 + 1 + 1 + 1 + 1 + 1), a7, a8⟩, a9⟩, k9, ⟨⟨n7 + n8 + n9, fun m hm r => ?_⟩, ?_⟩, by omega, by omega⟩
  · refine ⟨k9, ?_⟩
    rw [TInDef.enc_eq, TInDef.enc_eq]
    refine rowActs_txt (s := mtx (k)) rfl (rowActs_inc (by omega) ?_)
    refine rowActs_txt (s := mtx (k + 1)) rfl (rowActs_inc (by omega) ?_)
    refine rowActs_txt (s := mtx (k + 1 + 1)) rfl (rowActs_inc (by omega) ?_)
    refine rowActs_txt (s := mtx (k + 1 + 1 + 1)) rfl (rowActs_inc (by omega) ?_)
    refine rowActs_bool (rowActs_inc (by omega) ?_)
    refine rowActs_int (rowActs_inc (by omega) ?_)
    refine rowActs_txt (s := mtx (k + 1 + 1 + 1 + 1 + 1 + 1)) rfl (rowActs_inc (by omega) ?_)
    refine rowActs_sub (l := v.default'.items.map TValue.enc) rfl (mkF_up (by omega) e7) (rowActs_upd ⟨by omega, by omega⟩ ?_)
    refine rowActs_sub (l := v.default'.names.map S1) rfl (mkF_up (by omega) e8) (rowActs_upd ⟨by omega, by omega⟩ ?_)
    refine rowActs_sub (l := v.dirs.map TDir.enc) rfl (mkF_up (by omega) e9) (rowActs_upd ⟨by omega, by omega⟩ ?_)
    exact rfl
  · intro l i hi hl hg
    have m0 : E_laws_markText [.i (k)] = .ret [.s (mtx (k))] := mtx_eq (by omega) (by omega)
    have w0 : IntKind.i64.wrap (k + 1) = k + 1 := wrap64 (by omega) (by omega)
    have m1 : E_laws_markText [.i (k + 1)] = .ret [.s (mtx (k + 1))] := mtx_eq (by omega) (by omega)
    have w1 : IntKind.i64.wrap (k + 1 + 1) = k + 1 + 1 := wrap64 (by omega) (by omega)
    have m2 : E_laws_markText [.i (k + 1 + 1)] = .ret [.s (mtx (k + 1 + 1))] := mtx_eq (by omega) (by omega)
    have w2 : IntKind.i64.wrap (k + 1 + 1 + 1) = k + 1 + 1 + 1 := wrap64 (by omega) (by omega)
    have m3 : E_laws_markText [.i (k + 1 + 1 + 1)] = .ret [.s (mtx (k + 1 + 1 + 1))] := mtx_eq (by omega) (by omega)
    have w3 : IntKind.i64.wrap (k + 1 + 1 + 1 + 1) = k + 1 + 1 + 1 + 1 := wrap64 (by omega) (by omega)
    have t4 : Int.tmod (k + 1 + 1 + 1 + 1) 3 = (k + 1 + 1 + 1 + 1) % 3 := Int.tmod_eq_emod_of_nonneg (by omega)
    have w4 : IntKind.i64.wrap (k + 1 + 1 + 1 + 1 + 1) = k + 1 + 1 + 1 + 1 + 1 := wrap64 (by omega) (by omega)
    have w5 : IntKind.i64.wrap (k + 1 + 1 + 1 + 1 + 1 + 1) = k + 1 + 1 + 1 + 1 + 1 + 1 := wrap64 (by omega) (by omega)
    have m6 : E_laws_markText [.i (k + 1 + 1 + 1 + 1 + 1 + 1)] = .ret [.s (mtx (k + 1 + 1 + 1 + 1 + 1 + 1))] := mtx_eq (by omega) (by omega)
    have w6 : IntKind.i64.wrap (k + 1 + 1 + 1 + 1 + 1 + 1 + 1) = k + 1 + 1 + 1 + 1 + 1 + 1 + 1 := wrap64 (by omega) (by omega)
    have g7 : ¬ k7 < 0 := by omega
    have g8 : ¬ k8 < 0 := by omega
    have g9 : ¬ k9 < 0 := by omega
    have hc1 : (i : Int) < (l.length : Int) := by omega
    simp only [E_laws_heldInDefSL1, List.getD_cons_zero, List.getD_cons_succ, DC.bb_b, DC.ii_i, DC.ss_s, DC.ll_sl, Int.toNat_natCast, hg, TInDef.enc_eq, m0, w0, m1, w1, m2, w2, m3, w3, t4, w4, w5, m6, w6, h7, h8, h9, eq_laws_markText, Out.bindR_ret]
    simp [hi, hc1, wrap_succ hi hl, g7, g8, g9, m0, w0, m1, w1, m2, w2, m3, w3, t4, w4, w5, m6, w6, h7, h8, h9]
theorem mhS_InDef' (vs : List TInDef) (hs : ∀ v ∈ vs, ∀ k : Int, 0 ≤ k → k + 30 * ((1 + wtL (TInDef.enc v) : Nat) : Int) < 4611686018427387904 → ∃ (x' : TInDef) (k' : Int), (MarkRow mT mTab ms48 TInDef.enc v k x' k' ∧ (∀ (l : List (List DC)) (i : Nat), i < l.length → l.length ≤ 9223372036854775807 → l.getD i [] = TInDef.enc x' → E_laws_heldInDefSL1 [.sl l, .i k, .i (i : Int)] = .norm [.sl l, .i k', .i ((i + 1 : Nat) : Int)])) ∧ k ≤ k' ∧ k' ≤ k + 30 * ((1 + wtL (TInDef.enc v) : Nat) : Int)) (k : Int) (h0 : 0 ≤ k) (hk : k + 30 * ((DC.wt (.sl (vs.map TInDef.enc)) : Nat) : Int) < 4611686018427387904) : ∃ (vs' : List TInDef) (k' : Int), Mk mT mTab 48 (vs.map TInDef.enc) k (vs'.map TInDef.enc) k' ∧ k ≤ k' ∧ k' ≤ k + 30 * ((DC.wt (.sl (vs.map TInDef.enc)) : Nat) : Int) ∧ r_laws_heldInDefS [.sl (vs'.map TInDef.enc), .i k] = .ret [.i k'] := by
  obtain ⟨vs', k', m, b1, b2, c⟩ := mark_all (Q := fun k x' k' => ∀ (l : List (List DC)) (i : Nat), i < l.length → l.length ≤ 9223372036854775807 → l.getD i [] = TInDef.enc x' → E_laws_heldInDefSL1 [.sl l, .i k, .i (i : Int)] = .norm [.sl l, .i k', .i ((i + 1 : Nat) : Int)]) (f := 48) (ms := ms48) rfl vs hs h0 hk
  refine ⟨vs', k', m, b1, b2, ?_⟩
  have hl : vs.length ≤ DC.wt (.sl (vs.map TInDef.enc)) := by simp [DC.wt]
  have hc := c.len
  have key : Loop E_laws_heldInDefSL1 [.sl (vs'.map TInDef.enc), .i k, .i (0 : Int)] = .ex 0 [.i k'] := held_loop c (fun l k => by simp [E_laws_heldInDefSL1]) [] (by simp only [List.length_nil]; omega)
  rw [eq_laws_heldInDefS]
  simp only [E_laws_heldInDefS, List.getD_cons_zero, List.getD_cons_succ, DC.bb_b, DC.ii_i, DC.ss_s, DC.ll_sl, key, Out.andThenB]
  rfl
theorem mhS_InDef (vs : List TInDef) (k : Int) (h0 : 0 ≤ k) (hk : k + 30 * ((DC.wt (.sl (vs.map TInDef.enc)) : Nat) : Int) < 4611686018427387904) : ∃ (vs' : List TInDef) (k' : Int), Mk mT mTab 48 (vs.map TInDef.enc) k (vs'.map TInDef.enc) k' ∧ k ≤ k' ∧ k' ≤ k + 30 * ((DC.wt (.sl (vs.map TInDef.enc)) : Nat) : Int) ∧ r_laws_heldInDefS [.sl (vs'.map TInDef.enc), .i k] = .ret [.i k'] := mhS_InDef' vs (fun v _ => mh_InDef v) k h0 hk
theorem mh_FieldDef (v : TFieldDef) : ∀ k : Int, 0 ≤ k → k + 30 * ((1 + wtL (TFieldDef.enc v) : Nat) : Int) < 4611686018427387904 → ∃ (x' : TFieldDef) (k' : Int), (MarkRow mT mTab ms68 TFieldDef.enc v k x' k' ∧ (True)) ∧ k ≤ k' ∧ k' ≤ k + 30 * ((1 + wtL (TFieldDef.enc v) : Nat) : Int) := by
  intro k h0 hk
  rw [wsum_FieldDef, wsum_Type] at hk
  rw [wsum_FieldDef, wsum_Type]
  obtain ⟨a2, k2, ⟨n2, e2⟩, b2, c2, h2⟩ := mhS_InDef v.args (k + 1 + 1) (by omega) (by omega)
  obtain ⟨a5, k5, ⟨n5, e5⟩, b5, c5, h5⟩ := mhS_Dir v.dirs (k2 + 1 + 1) (by omega) (by omega)
  refine ⟨⟨mtx (k), mtx (k + 1), a2, ⟨mtx (k2), mtx (k2 + 1)⟩, a5⟩, k5, ⟨⟨n2 + n5, fun m hm r => ?_⟩, ?_⟩, by omega, by omega⟩
  · refine ⟨k5, ?_⟩
    rw [TFieldDef.enc_eq, TFieldDef.enc_eq]
    refine rowActs_txt (s := mtx (k)) rfl (rowActs_inc (by omega) ?_)
    refine rowActs_txt (s := mtx (k + 1)) rfl (rowActs_inc (by omega) ?_)
    refine rowActs_sub (l := v.args.map TInDef.enc) rfl (mkF_up (by omega) e2) (rowActs_upd ⟨by omega, by omega⟩ ?_)
    refine rowActs_txt (s := mtx (k2)) rfl (rowActs_inc (by omega) ?_)
    refine rowActs_txt (s := mtx (k2 + 1)) rfl (rowActs_inc (by omega) ?_)
    refine rowActs_sub (l := v.dirs.map TDir.enc) rfl (mkF_up (by omega) e5) (rowActs_upd ⟨by omega, by omega⟩ ?_)
    exact rfl
  · trivial
theorem mhS_FieldDef' (vs : List TFieldDef) (hs : ∀ v ∈ vs, ∀ k : Int, 0 ≤ k → k + 30 * ((1 + wtL (TFieldDef.enc v) : Nat) : Int) < 4611686018427387904 → ∃ (x' : TFieldDef) (k' : Int), (MarkRow mT mTab ms68 TFieldDef.enc v k x' k' ∧ (True)) ∧ k ≤ k' ∧ k' ≤ k + 30 * ((1 + wtL (TFieldDef.enc v) : Nat) : Int)) (k : Int) (h0 : 0 ≤ k) (hk : k + 30 * ((DC.wt (.sl (vs.map TFieldDef.enc)) : Nat) : Int) < 4611686018427387904) : ∃ (vs' : List TFieldDef) (k' : Int), Mk mT mTab 68 (vs.map TFieldDef.enc) k (vs'.map TFieldDef.enc) k' ∧ k ≤ k' ∧ k' ≤ k + 30 * ((DC.wt (.sl (vs.map TFieldDef.enc)) : Nat) : Int) ∧ True := by
  obtain ⟨vs', k', m, b1, b2, c⟩ := mark_all (Q := fun k x' k' => True) (f := 68) (ms := ms68) rfl vs hs h0 hk
  exact ⟨vs', k', m, b1, b2, trivial⟩
theorem mhS_FieldDef (vs : List TFieldDef) (k : Int) (h0 : 0 ≤ k) (hk : k + 30 * ((DC.wt (.sl (vs.map TFieldDef.enc)) : Nat) : Int) < 4611686018427387904) : ∃ (vs' : List TFieldDef) (k' : Int), Mk mT mTab 68 (vs.map TFieldDef.enc) k (vs'.map TFieldDef.enc) k' ∧ k ≤ k' ∧ k' ≤ k + 30 * ((DC.wt (.sl (vs.map TFieldDef.enc)) : Nat) : Int) ∧ True := mhS_FieldDef' vs (fun v _ => mh_FieldDef v) k h0 hk
theorem mh_EnumDef (v : TEnumDef) : ∀ k : Int, 0 ≤ k → k + 30 * ((1 + wtL (TEnumDef.enc v) : Nat) : Int) < 4611686018427387904 → ∃ (x' : TEnumDef) (k' : Int), (MarkRow mT mTab ms69 TEnumDef.enc v k x' k' ∧ (True)) ∧ k ≤ k' ∧ k' ≤ k + 30 * ((1 + wtL (TEnumDef.enc v) : Nat) : Int) := by
  intro k h0 hk
  rw [wsum_EnumDef] at hk
  rw [wsum_EnumDef]
  obtain ⟨a2, k2, ⟨n2, e2⟩, b2, c2, h2⟩ := mhS_Dir v.dirs (k + 1 + 1) (by omega) (by omega)
  refine ⟨⟨mtx (k), mtx (k + 1), a2⟩, k2, ⟨⟨n2, fun m hm r => ?_⟩, ?_⟩, by omega, by omega⟩
  · refine ⟨k2, ?_⟩
    rw [TEnumDef.enc_eq, TEnumDef.enc_eq]
    refine rowActs_txt (s := mtx (k)) rfl (rowActs_inc (by omega) ?_)
    refine rowActs_txt (s := mtx (k + 1)) rfl (rowActs_inc (by omega) ?_)
    refine rowActs_sub (l := v.dirs.map TDir.enc) rfl (mkF_up (by omega) e2) (rowActs_upd ⟨by omega, by omega⟩ ?_)
    exact rfl
  · trivial
theorem mhS_EnumDef' (vs : List TEnumDef) (hs : ∀ v ∈ vs, ∀ k : Int, 0 ≤ k → k + 30 * ((1 + wtL (TEnumDef.enc v) : Nat) : Int) < 4611686018427387904 → ∃ (x' : TEnumDef) (k' : Int), (MarkRow mT mTab ms69 TEnumDef.enc v k x' k' ∧ (True)) ∧ k ≤ k' ∧ k' ≤ k + 30 * ((1 + wtL (TEnumDef.enc v) : Nat) : Int)) (k : Int) (h0 : 0 ≤ k) (hk : k + 30 * ((DC.wt (.sl (vs.map TEnumDef.enc)) : Nat) : Int) < 4611686018427387904) : ∃ (vs' : List TEnumDef) (k' : Int), Mk mT mTab 69 (vs.map TEnumDef.enc) k (vs'.map TEnumDef.enc) k' ∧ k ≤ k' ∧ k' ≤ k + 30 * ((DC.wt (.sl (vs.map TEnumDef.enc)) : Nat) : Int) ∧ True := by
  obtain ⟨vs', k', m, b1, b2, c⟩ := mark_all (Q := fun k x' k' => True) (f := 69) (ms := ms69) rfl vs hs h0 hk
  exact ⟨vs', k', m, b1, b2, trivial⟩
theorem mhS_EnumDef (vs : List TEnumDef) (k : Int) (h0 : 0 ≤ k) (hk : k + 30 * ((DC.wt (.sl (vs.map TEnumDef.enc)) : Nat) : Int) < 4611686018427387904) : ∃ (vs' : List TEnumDef) (k' : Int), Mk mT mTab 69 (vs.map TEnumDef.enc) k (vs'.map TEnumDef.enc) k' ∧ k ≤ k' ∧ k' ≤ k + 30 * ((DC.wt (.sl (vs.map TEnumDef.enc)) : Nat) : Int) ∧ True := mhS_EnumDef' vs (fun v _ => mh_EnumDef v) k h0 hk
theorem mh_Root (v : TRoot) : ∀ k : Int, 0 ≤ k → k + 30 * ((1 + wtL (TRoot.enc v) : Nat) : Int) < 4611686018427387904 → ∃ (x' : TRoot) (k' : Int), (MarkRow mT mTab ms47 TRoot.enc v k x' k' ∧ (True)) ∧ k ≤ k' ∧ k' ≤ k + 30 * ((1 + wtL (TRoot.enc v) : Nat) : Int) := by
  intro k h0 hk
  rw [wsum_Root] at hk
  rw [wsum_Root]
  refine ⟨⟨k, mtx (k + 1)⟩, k + 1 + 1, ⟨⟨0, fun m hm r => ?_⟩, ?_⟩, by omega, by omega⟩
  · refine ⟨r, ?_⟩
    rw [TRoot.enc_eq, TRoot.enc_eq]
    refine rowActs_int (rowActs_inc (by omega) ?_)
    refine rowActs_txt (s := mtx (k + 1)) rfl (rowActs_inc (by omega) ?_)
    exact rfl
  · trivial
theorem mhS_Root' (vs : List TRoot) (hs : ∀ v ∈ vs, ∀ k : Int, 0 ≤ k → k + 30 * ((1 + wtL (TRoot.enc v) : Nat) : Int) < 4611686018427387904 → ∃ (x' : TRoot) (k' : Int), (MarkRow mT mTab ms47 TRoot.enc v k x' k' ∧ (True)) ∧ k ≤ k' ∧ k' ≤ k + 30 * ((1 + wtL (TRoot.enc v) : Nat) : Int)) (k : Int) (h0 : 0 ≤ k) (hk : k + 30 * ((DC.wt (.sl (vs.map TRoot.enc)) : Nat) : Int) < 4611686018427387904) : ∃ (vs' : List TRoot) (k' : Int), Mk mT mTab 47 (vs.map TRoot.enc) k (vs'.map TRoot.enc) k' ∧ k ≤ k' ∧ k' ≤ k + 30 * ((DC.wt (.sl (vs.map TRoot.enc)) : Nat) : Int) ∧ True := by
  obtain ⟨vs', k', m, b1, b2, c⟩ := mark_all (Q := fun k x' k' => True) (f := 47) (ms := ms47) rfl vs hs h0 hk
  exact ⟨vs', k', m, b1, b2, trivial⟩
theorem mhS_Root (vs : List TRoot) (k : Int) (h0 : 0 ≤ k) (hk : k + 30 * ((DC.wt (.sl (vs.map TRoot.enc)) : Nat) : Int) < 4611686018427387904) : ∃ (vs' : List TRoot) (k' : Int), Mk mT mTab 47 (vs.map TRoot.enc) k (vs'.map TRoot.enc) k' ∧ k ≤ k' ∧ k' ≤ k + 30 * ((DC.wt (.sl (vs.map TRoot.enc)) : Nat) : Int) ∧ True := mhS_Root' vs (fun v _ => mh_Root v) k h0 hk
theorem mh_Def (v : TDef) : ∀ k : Int, 0 ≤ k → k + 30 * ((1 + wtL (TDef.enc v) : Nat) : Int) < 4611686018427387904 → ∃ (x' : TDef) (k' : Int), (MarkRow mT mTab ms23 TDef.enc v k x' k' ∧ (True)) ∧ k ≤ k' ∧ k' ≤ k + 30 * ((1 + wtL (TDef.enc v) : Nat) : Int) := by
  intro k h0 hk
  rw [wsum_Def] at hk
  rw [wsum_Def]
  obtain ⟨a4, k4, ⟨n4, e4⟩, b4, c4, h4⟩ := mhS_String v.faces (k + 1 + 1 + 1 + 1) (by omega) (by omega)
  obtain ⟨a5, k5, ⟨n5, e5⟩, b5, c5, h5⟩ := mhS_FieldDef v.fields (k4) (by omega) (by omega)
  obtain ⟨a6, k6, ⟨n6, e6⟩, b6, c6, h6⟩ := mhS_InDef v.inputs (k5) (by omega) (by omega)
  obtain ⟨a7, k7, ⟨n7, e7⟩, b7, c7, h7⟩ := mhS_EnumDef v.values (k6) (by omega) (by omega)
  obtain ⟨a8, k8, ⟨n8, e8⟩, b8, c8, h8⟩ := mhS_Root v.roots (k7) (by omega) (by omega)
  obtain ⟨a10, k10, ⟨n10, e10⟩, b10, c10, h10⟩ := mhS_Dir v.dirs (k8 + 1) (by omega) (by omega)
  refine ⟨⟨k, (k + 1) % 3 == 0, mtx (k + 1 + 1), mtx (k + 1 + 1 + 1), a4, a5, a6, a7, a8, (k8) % 3 == 0, a10⟩, k10, ⟨⟨n4 + n5 + n6 + n7 + n8 + n10, fun m hm r => ?_⟩, ?_⟩, by omega, by omega⟩
  · refine ⟨k10, ?_⟩
    rw [TDef.enc_eq, TDef.enc_eq]
    refine rowActs_int (rowActs_inc (by omega) ?_)
    refine rowActs_bool (rowActs_inc (by omega) ?_)
    refine rowActs_txt (s := mtx (k + 1 + 1)) rfl (rowActs_inc (by omega) ?_)
    refine rowActs_txt (s := mtx (k + 1 + 1 + 1)) rfl (rowActs_inc (by omega) ?_)
    refine rowActs_sub (l := v.faces.map S1) rfl (mkF_up (by omega) e4) (rowActs_upd ⟨by omega, by omega⟩ ?_)
    refine rowActs_sub (l := v.fields.map TFieldDef.enc) rfl (mkF_up (by omega) e5) (rowActs_upd ⟨by omega, by omega⟩ ?_)
    refine rowActs_sub (l := v.inputs.map TInDef.enc) rfl (mkF_up (by omega) e6) (rowActs_upd ⟨by omega, by omega⟩ ?_)
    refine rowActs_sub (l := v.values.map TEnumDef.enc) rfl (mkF_up (by omega) e7) (rowActs_upd ⟨by omega, by omega⟩ ?_)
    refine rowActs_sub (l := v.roots.map TRoot.enc) rfl (mkF_up (by omega) e8) (rowActs_upd ⟨by omega, by omega⟩ ?_)
    refine rowActs_bool (rowActs_inc (by omega) ?_)
    refine rowActs_sub (l := v.dirs.map TDir.enc) rfl (mkF_up (by omega) e10) (rowActs_upd ⟨by omega, by omega⟩ ?_)
    exact rfl
  · trivial
theorem mhS_Def' (vs : List TDef) (hs : ∀ v ∈ vs, ∀ k : Int, 0 ≤ k → k + 30 * ((1 + wtL (TDef.enc v) : Nat) : Int) < 4611686018427387904 → ∃ (x' : TDef) (k' : Int), (MarkRow mT mTab ms23 TDef.enc v k x' k' ∧ (True)) ∧ k ≤ k' ∧ k' ≤ k + 30 * ((1 + wtL (TDef.enc v) : Nat) : Int)) (k : Int) (h0 : 0 ≤ k) (hk : k + 30 * ((DC.wt (.sl (vs.map TDef.enc)) : Nat) : Int) < 4611686018427387904) : ∃ (vs' : List TDef) (k' : Int), Mk mT mTab 23 (vs.map TDef.enc) k (vs'.map TDef.enc) k' ∧ k ≤ k' ∧ k' ≤ k + 30 * ((DC.wt (.sl (vs.map TDef.enc)) : Nat) : Int) ∧ True := by
  obtain ⟨vs', k', m, b1, b2, c⟩ := mark_all (Q := fun k x' k' => True) (f := 23) (ms := ms23) rfl vs hs h0 hk
  exact ⟨vs', k', m, b1, b2, trivial⟩
theorem mhS_Def (vs : List TDef) (k : Int) (h0 : 0 ≤ k) (hk : k + 30 * ((DC.wt (.sl (vs.map TDef.enc)) : Nat) : Int) < 4611686018427387904) : ∃ (vs' : List TDef) (k' : Int), Mk mT mTab 23 (vs.map TDef.enc) k (vs'.map TDef.enc) k' ∧ k ≤ k' ∧ k' ≤ k + 30 * ((DC.wt (.sl (vs.map TDef.enc)) : Nat) : Int) ∧ True := mhS_Def' vs (fun v _ => mh_Def v) k h0 hk
theorem mha_Schema (v : TSchema) (k : Int) (h0 : 0 ≤ k) (hk : k + 30 * ((wtL (TSchema.enc v) : Nat) : Int) < 4611686018427387904) : ∃ (x0 : List TDef) (x1 : List TDef) (x2 : List TRoot) (k' : Int), mkAV mT mTab [23, 23, 47] [v.types.map TDef.enc, v.dirs.map TDef.enc, v.roots.map TRoot.enc] k = some ([x0.map TDef.enc, x1.map TDef.enc, x2.map TRoot.enc], k') ∧ k ≤ k' ∧ k' ≤ k + 30 * ((wtL (TSchema.enc v) : Nat) : Int) ∧ True := by
  rw [wsum_Schema] at hk
  rw [wsum_Schema]
  obtain ⟨a0, k0, ⟨n0, e0⟩, b0, c0, h0⟩ := mhS_Def v.types (k) (by omega) (by omega)
  obtain ⟨a1, k1, ⟨n1, e1⟩, b1, c1, h1⟩ := mhS_Def v.dirs (k0) (by omega) (by omega)
  obtain ⟨a2, k2, ⟨n2, e2⟩, b2, c2, h2⟩ := mhS_Root v.roots (k1) (by omega) (by omega)
  refine ⟨a0, a1, a2, k2, mkAV_put (n := n0 + n1 + n2) ?_, by omega, by omega, ?_⟩
  · simp only [mkA, mkF_up (show n0 ≤ n0 + n1 + n2 by omega) e0, mkF_up (show n1 ≤ n0 + n1 + n2 by omega) e1, mkF_up (show n2 ≤ n0 + n1 + n2 by omega) e2]
  · trivial
theorem mha_FieldDef (v : TFieldDef) (k : Int) (h0 : 0 ≤ k) (hk : k + 30 * ((wtL (TFieldDef.enc v) : Nat) : Int) < 4611686018427387904) : ∃ (x0 : List TInDef) (x1 : List TDir) (k' : Int), mkAV mT mTab [48, 49] [v.args.map TInDef.enc, v.dirs.map TDir.enc] k = some ([x0.map TInDef.enc, x1.map TDir.enc], k') ∧ k ≤ k' ∧ k' ≤ k + 30 * ((wtL (TFieldDef.enc v) : Nat) : Int) ∧ r_laws_heldFieldDef [.s v.name, .s v.desc, .sl (x0.map TInDef.enc), .s v.type'.name, .s v.type'.wraps, .sl (x1.map TDir.enc), .i k] = .ret [.i k'] := by
  rw [wsum_FieldDef, wsum_Type] at hk
  rw [wsum_FieldDef, wsum_Type]
  obtain ⟨a0, k0, ⟨n0, e0⟩, b0, c0, h0⟩ := mhS_InDef v.args (k) (by omega) (by omega)
  obtain ⟨a1, k1, ⟨n1, e1⟩, b1, c1, h1⟩ := mhS_Dir v.dirs (k0) (by omega) (by omega)
  refine ⟨a0, a1, k1, mkAV_put (n := n0 + n1) ?_, by omega, by omega, ?_⟩
  · simp only [mkA, mkF_up (show n0 ≤ n0 + n1 by omega) e0, mkF_up (show n1 ≤ n0 + n1 by omega) e1]
  · have g0 : ¬ k0 < 0 := by omega
    have g1 : ¬ k1 < 0 := by omega
    rw [eq_laws_heldFieldDef]
    simp only [E_laws_heldFieldDef, List.getD_cons_zero, List.getD_cons_succ, DC.bb_b, DC.ii_i, DC.ss_s, DC.ll_sl, h0, h1, Out.bindR_ret]
    simp [g0, g1, h0, h1]
theorem lim_add {n : Nat} (h : n ≤ 1048576) : n + 1 < LIM := by unfold LIM; omega
theorem lim_zero {n : Nat} (h : n ≤ 1048576) : 0 + n < LIM := by unfold LIM; omega
theorem take_map_succ {α β : Type} {f : α → β} {l : List α} {j : Nat} (h : j < l.length) : (l.take (j + 1)).map f = (l.take j).map f ++ [f l[j]] := by
  rw [List.take_succ_eq_append_getElem h, List.map_append]
  rfl
theorem copyA {α : Type} {enc : α → List DC} {vs : List α} {F : List DC → Out} (hF : ∀ (i : Nat) (hi : i < vs.length), F [.sl (vs.map enc), .sl ((vs.take i).map enc), .i (i : Int)] = .norm [.sl (vs.map enc), .sl ((vs.take i).map enc ++ [enc vs[i]]), .i ((i + 1 : Nat) : Int)])
    (hend : F [.sl (vs.map enc), .sl (vs.map enc), .i (vs.length : Int)] = .ex 0 [.sl (vs.map enc)]) : Loop F [.sl (vs.map enc), .sl [], .i (0 : Int)] = .ex 0 [.sl (vs.map enc)] := by
  have key := Loop_upto (F := F) (st := fun i => [.sl (vs.map enc), .sl ((vs.take i).map enc), .i (i : Int)]) (o := .ex 0 [.sl (vs.map enc)]) vs.length 0 (fun j _ hj => by
    have hi : j < vs.length := by omega
    rw [take_map_succ hi]
    exact hF j hi) (Loop_ex (by rw [Nat.zero_add, List.take_length]; exact hend))
  exact key
theorem copyB {α : Type} {enc : α → List DC} {vs : List α} {F : List DC → Out} (hF : ∀ (i : Nat) (hi : i < vs.length), F [.sl ((vs.take i).map enc), .sl (vs.map enc), .i ((vs.map enc).length : Int), .i (i : Int)] = .norm [.sl ((vs.take i).map enc ++ [enc vs[i]]), .sl (vs.map enc), .i ((vs.map enc).length : Int), .i ((i + 1 : Nat) : Int)])
    (hend : F [.sl (vs.map enc), .sl (vs.map enc), .i ((vs.map enc).length : Int), .i (vs.length : Int)] = .ex 0 [.sl (vs.map enc)]) : Loop F [.sl [], .sl (vs.map enc), .i ((vs.map enc).length : Int), .i (0 : Int)] = .ex 0 [.sl (vs.map enc)] := by
  have key := Loop_upto (F := F) (st := fun i => [.sl ((vs.take i).map enc), .sl (vs.map enc), .i ((vs.map enc).length : Int), .i (i : Int)]) (o := .ex 0 [.sl (vs.map enc)]) vs.length 0 (fun j _ hj => by
    have hi : j < vs.length := by omega
    rw [take_map_succ hi]
    exact hF j hi) (Loop_ex (by rw [Nat.zero_add, List.take_length]; exact hend))
  exact key
theorem cp_spec_l07Copy (v : TValue) : wtL (TValue.enc v) ≤ 1048576 → r_spec_l07Copy [.i v.kind, .s v.text, .sl (v.items.map TValue.enc), .sl (v.names.map S1)] = .ret (TValue.enc v) := by
  induction v using TValue.ind with | h v ih =>
  intro hw
  rw [wsum_Value] at hw
  have hn : v.names.length ≤ 1048576 := by have h := hw; simp only [DC.wt, List.length_map] at h; omega
  have hl : v.items.length ≤ 1048576 := by have h := hw; simp only [DC.wt, List.length_map] at h; omega
  rw [eq_spec_l07Copy]
  simp only [E_spec_l07Copy, List.getD_cons_zero, List.getD_cons_succ, DC.bb_b, DC.ii_i, DC.ss_s, DC.ll_sl, List.length_map, List.length_nil]
  rw [if_pos (lim_zero hn)]
  have key := Loop_upto (F := E_spec_l07CopyL1) (st := fun i => [.i (i : Int), .i v.kind, .s v.text, .sl (v.items.map TValue.enc), .sl (v.names.map S1), .i 0, .s [], .i v.kind, .s v.text, .sl ((v.items.take i).map TValue.enc), .sl (v.names.map S1)]) (o := .ex 0 [.i 0, .s [], .i v.kind, .s v.text, .sl (v.items.map TValue.enc), .sl (v.names.map S1)]) v.items.length 0 (fun j _ hj => ?step) ?fin
  · have key' : Loop E_spec_l07CopyL1 [.i 0, .i v.kind, .s v.text, .sl (v.items.map TValue.enc), .sl (v.names.map S1), .i 0, .s [], .i v.kind, .s v.text, .sl [], .sl ([] ++ v.names.map S1)] = .ex 0 [.i 0, .s [], .i v.kind, .s v.text, .sl (v.items.map TValue.enc), .sl (v.names.map S1)] := key
    rw [key', TValue.enc_eq]
    simp [Out.andThenB]
  case step =>
    have hi : j < v.items.length := by omega
    have hc1 : (j : Int) < (v.items.length : Int) := by omega
    have hv := ih v.items[j] (List.getElem_mem hi) (by have := wtV_mem (List.mem_map_of_mem (f := TValue.enc) (List.getElem_mem hi)); rw [DC.wt] at hw; omega)
    have hL : j + 1 < LIM := lim_add (by omega)
    have hm : min j v.items.length = j := by omega
    rw [take_map_succ hi]
    simp only [E_spec_l07CopyL1, List.getD_cons_zero, List.getD_cons_succ, DC.bb_b, DC.ii_i, DC.ss_s, DC.ll_sl, Int.toNat_natCast, List.length_map, map_getD hi, TValue.enc_eq v.items[j], hv, Out.bindR_ret, List.length_take, hm]
    simp [hi, hc1, hL, Out.andThenB, wrap_succ hi (show v.items.length ≤ 9223372036854775807 by omega), TValue.enc_eq v.items[j]]
  case fin =>
    refine Loop_ex ?_
    rw [Nat.zero_add, List.take_length]
    simp [E_spec_l07CopyL1]
theorem cpS_spec_l10Args (vs : List TArg) (hw : DC.wt (.sl (vs.map TArg.enc)) ≤ 1048576) : r_spec_l10Args [.sl (vs.map TArg.enc)] = .ret [.sl (vs.map TArg.enc)] := by
  have hl : vs.length ≤ 1048576 := by rw [DC.wt, List.length_map] at hw; omega
  rw [eq_spec_l10Args]
  simp only [E_spec_l10Args, List.getD_cons_zero, DC.ll_sl]
  rw [copyA (F := E_spec_l10ArgsL1) (fun j hi => ?step) ?fin]
  · rfl
  case step =>
    have hwj : wtL (TArg.enc vs[j]) ≤ 1048576 := by have := wtV_mem (List.mem_map_of_mem (f := TArg.enc) (List.getElem_mem hi)); rw [DC.wt] at hw; omega
    rw [wsum_Arg] at hwj
    have q0 := cp_spec_l07Copy vs[j].value (by omega)
    rw [TValue.enc_eq] at q0
    have hc1 : (j : Int) < (vs.length : Int) := by omega
    have hL : j + 1 < LIM := lim_add (by omega)
    have hm : min j vs.length = j := by omega
    simp only [E_spec_l10ArgsL1, List.getD_cons_zero, List.getD_cons_succ, DC.bb_b, DC.ii_i, DC.ss_s, DC.ll_sl, Int.toNat_natCast, List.length_map, map_getD hi, TArg.enc_eq vs[j], q0, Out.bindR_ret, List.length_take, hm]
    simp [hi, hc1, hL, Out.andThenB, wrap_succ hi (show vs.length ≤ 9223372036854775807 by omega), TArg.enc_eq vs[j], map_getD hi]
  case fin => simp [E_spec_l10ArgsL1]
theorem cpS_spec_l10Dirs (vs : List TDir) (hw : DC.wt (.sl (vs.map TDir.enc)) ≤ 1048576) : r_spec_l10Dirs [.sl (vs.map TDir.enc)] = .ret [.sl (vs.map TDir.enc)] := by
  have hl : vs.length ≤ 1048576 := by rw [DC.wt, List.length_map] at hw; omega
  rw [eq_spec_l10Dirs]
  simp only [E_spec_l10Dirs, List.getD_cons_zero, DC.ll_sl]
  rw [copyA (F := E_spec_l10DirsL1) (fun j hi => ?step) ?fin]
  · rfl
  case step =>
    have hwj : wtL (TDir.enc vs[j]) ≤ 1048576 := by have := wtV_mem (List.mem_map_of_mem (f := TDir.enc) (List.getElem_mem hi)); rw [DC.wt] at hw; omega
    rw [wsum_Dir] at hwj
    have q0 := cpS_spec_l10Args vs[j].args (by omega)
    have hc1 : (j : Int) < (vs.length : Int) := by omega
    have hL : j + 1 < LIM := lim_add (by omega)
    have hm : min j vs.length = j := by omega
    simp only [E_spec_l10DirsL1, List.getD_cons_zero, List.getD_cons_succ, DC.bb_b, DC.ii_i, DC.ss_s, DC.ll_sl, Int.toNat_natCast, List.length_map, map_getD hi, TDir.enc_eq vs[j], q0, Out.bindR_ret, List.length_take, hm]
    simp [hi, hc1, hL, Out.andThenB, wrap_succ hi (show vs.length ≤ 9223372036854775807 by omega), TDir.enc_eq vs[j], map_getD hi]
  case fin => simp [E_spec_l10DirsL1]
theorem cpS_spec_l13CopyIns (vs : List TInDef) (hw : DC.wt (.sl (vs.map TInDef.enc)) ≤ 1048576) : r_spec_l13CopyIns [.sl (vs.map TInDef.enc)] = .ret [.sl (vs.map TInDef.enc)] := by
  have hl : vs.length ≤ 1048576 := by rw [DC.wt, List.length_map] at hw; omega
  rw [eq_spec_l13CopyIns]
  simp only [E_spec_l13CopyIns, List.getD_cons_zero, DC.ll_sl]
  rw [copyA (F := E_spec_l13CopyInsL1) (fun j hi => ?step) ?fin]
  · rfl
  case step =>
    have hwj : wtL (TInDef.enc vs[j]) ≤ 1048576 := by have := wtV_mem (List.mem_map_of_mem (f := TInDef.enc) (List.getElem_mem hi)); rw [DC.wt] at hw; omega
    rw [wsum_InDef] at hwj
    have q0 := cp_spec_l07Copy vs[j].default' (by omega)
    rw [TValue.enc_eq] at q0
    have q1 := cpS_spec_l10Dirs vs[j].dirs (by omega)
    have hc1 : (j : Int) < (vs.length : Int) := by omega
    have hL : j + 1 < LIM := lim_add (by omega)
    have hm : min j vs.length = j := by omega
    simp only [E_spec_l13CopyInsL1, List.getD_cons_zero, List.getD_cons_succ, DC.bb_b, DC.ii_i, DC.ss_s, DC.ll_sl, Int.toNat_natCast, List.length_map, map_getD hi, TInDef.enc_eq vs[j], q0, q1, Out.bindR_ret, List.length_take, hm]
    simp [hi, hc1, hL, Out.andThenB, wrap_succ hi (show vs.length ≤ 9223372036854775807 by omega), TInDef.enc_eq vs[j], map_getD hi]
  case fin => simp [E_spec_l13CopyInsL1]
theorem cpS_spec_l13CopyFields (vs : List TFieldDef) (hw : DC.wt (.sl (vs.map TFieldDef.enc)) ≤ 1048576) : r_spec_l13CopyFields [.sl (vs.map TFieldDef.enc)] = .ret [.sl (vs.map TFieldDef.enc)] := by
  have hl : vs.length ≤ 1048576 := by rw [DC.wt, List.length_map] at hw; omega
  rw [eq_spec_l13CopyFields]
  simp only [E_spec_l13CopyFields, List.getD_cons_zero, DC.ll_sl]
  rw [copyA (F := E_spec_l13CopyFieldsL1) (fun j hi => ?step) ?fin]
  · rfl
  case step =>
    have hwj : wtL (TFieldDef.enc vs[j]) ≤ 1048576 := by have := wtV_mem (List.mem_map_of_mem (f := TFieldDef.enc) (List.getElem_mem hi)); rw [DC.wt] at hw; omega
    rw [wsum_FieldDef] at hwj
    have q0 := cpS_spec_l13CopyIns vs[j].args (by omega)
    have q1 := cpS_spec_l10Dirs vs[j].dirs (by omega)
    have hc1 : (j : Int) < (vs.length : Int) := by omega
    have hL : j + 1 < LIM := lim_add (by omega)
    have hm : min j vs.length = j := by omega
    simp only [E_spec_l13CopyFieldsL1, List.getD_cons_zero, List.getD_cons_succ, DC.bb_b, DC.ii_i, DC.ss_s, DC.ll_sl, Int.toNat_natCast, List.length_map, map_getD hi, TFieldDef.enc_eq vs[j], q0, q1, Out.bindR_ret, List.length_take, hm]
    simp [hi, hc1, hL, Out.andThenB, wrap_succ hi (show vs.length ≤ 9223372036854775807 by omega), TFieldDef.enc_eq vs[j], map_getD hi]
  case fin => simp [E_spec_l13CopyFieldsL1]
theorem cp_impl_cloneValue (v : TValue) : wtL (TValue.enc v) ≤ 1048576 → r_impl_cloneValue [.i v.kind, .s v.text, .sl (v.items.map TValue.enc), .sl (v.names.map S1)] = .ret (TValue.enc v) := by
  induction v using TValue.ind with | h v ih =>
  intro hw
  rw [wsum_Value] at hw
  have hn : v.names.length ≤ 1048576 := by have h := hw; simp only [DC.wt, List.length_map] at h; omega
  have hl : v.items.length ≤ 1048576 := by have h := hw; simp only [DC.wt, List.length_map] at h; omega
  rw [eq_impl_cloneValue]
  simp only [E_impl_cloneValue, List.getD_cons_zero, List.getD_cons_succ, DC.bb_b, DC.ii_i, DC.ss_s, DC.ll_sl, at_slices_Clone_string (v.names.map S1) (by rw [List.length_map]; omega), Out.bindR_ret]
  have key := Loop_upto (F := E_impl_cloneValueL1) (st := fun i => [.sl (v.items.map TValue.enc), .i ((v.items.map TValue.enc).length : Int), .i (i : Int), .i 0, .s [], .i v.kind, .s v.text, .sl ((v.items.take i).map TValue.enc), .sl (v.names.map S1)]) (o := .ex 0 [.i 0, .s [], .i v.kind, .s v.text, .sl (v.items.map TValue.enc), .sl (v.names.map S1)]) v.items.length 0 (fun j _ hj => ?step) ?fin
  · have key' : Loop E_impl_cloneValueL1 [.sl (v.items.map TValue.enc), .i ((v.items.map TValue.enc).length : Int), .i 0, .i 0, .s [], .i v.kind, .s v.text, .sl [], .sl (v.names.map S1)] = .ex 0 [.i 0, .s [], .i v.kind, .s v.text, .sl (v.items.map TValue.enc), .sl (v.names.map S1)] := key
    rw [key', TValue.enc_eq]
    simp [Out.andThenB]
  case step =>
    have hi : j < v.items.length := by omega
    have hc1 : (j : Int) < (v.items.length : Int) := by omega
    have hv := ih v.items[j] (List.getElem_mem hi) (by have := wtV_mem (List.mem_map_of_mem (f := TValue.enc) (List.getElem_mem hi)); rw [DC.wt] at hw; omega)
    have hL : j + 1 < LIM := lim_add (by omega)
    have hm : min j v.items.length = j := by omega
    rw [take_map_succ hi]
    simp only [E_impl_cloneValueL1, List.getD_cons_zero, List.getD_cons_succ, DC.bb_b, DC.ii_i, DC.ss_s, DC.ll_sl, Int.toNat_natCast, List.length_map, map_getD hi, TValue.enc_eq v.items[j], hv, Out.bindR_ret, List.length_take, hm]
    simp [hi, hc1, hL, Out.andThenB, wrap_succ hi (show v.items.length ≤ 9223372036854775807 by omega), TValue.enc_eq v.items[j]]
  case fin =>
    refine Loop_ex ?_
    rw [Nat.zero_add, List.take_length]
    simp [E_impl_cloneValueL1]
theorem cpS_impl_cloneArgs (vs : List TArg) (hw : DC.wt (.sl (vs.map TArg.enc)) ≤ 1048576) : r_impl_cloneArgs [.sl (vs.map TArg.enc)] = .ret [.sl (vs.map TArg.enc)] := by
  have hl : vs.length ≤ 1048576 := by rw [DC.wt, List.length_map] at hw; omega
  rw [eq_impl_cloneArgs]
  simp only [E_impl_cloneArgs, List.getD_cons_zero, DC.ll_sl]
  rw [copyB (F := E_impl_cloneArgsL1) (fun j hi => ?step) ?fin]
  · rfl
  case step =>
    have hwj : wtL (TArg.enc vs[j]) ≤ 1048576 := by have := wtV_mem (List.mem_map_of_mem (f := TArg.enc) (List.getElem_mem hi)); rw [DC.wt] at hw; omega
    rw [wsum_Arg] at hwj
    have q0 := cp_impl_cloneValue vs[j].value (by omega)
    rw [TValue.enc_eq] at q0
    have hc1 : (j : Int) < (vs.length : Int) := by omega
    have hL : j + 1 < LIM := lim_add (by omega)
    have hm : min j vs.length = j := by omega
    simp only [E_impl_cloneArgsL1, List.getD_cons_zero, List.getD_cons_succ, DC.bb_b, DC.ii_i, DC.ss_s, DC.ll_sl, Int.toNat_natCast, List.length_map, map_getD hi, TArg.enc_eq vs[j], q0, Out.bindR_ret, List.length_take, hm]
    simp [hi, hc1, hL, Out.andThenB, wrap_succ hi (show vs.length ≤ 9223372036854775807 by omega), TArg.enc_eq vs[j], map_getD hi]
  case fin => simp [E_impl_cloneArgsL1]
theorem cpS_impl_cloneDirs (vs : List TDir) (hw : DC.wt (.sl (vs.map TDir.enc)) ≤ 1048576) : r_impl_cloneDirs [.sl (vs.map TDir.enc)] = .ret [.sl (vs.map TDir.enc)] := by
  have hl : vs.length ≤ 1048576 := by rw [DC.wt, List.length_map] at hw; omega
  rw [eq_impl_cloneDirs]
  simp only [E_impl_cloneDirs, List.getD_cons_zero, DC.ll_sl]
  rw [copyB (F := E_impl_cloneDirsL1) (fun j hi => ?step) ?fin]
  · rfl
  case step =>
    have hwj : wtL (TDir.enc vs[j]) ≤ 1048576 := by have := wtV_mem (List.mem_map_of_mem (f := TDir.enc) (List.getElem_mem hi)); rw [DC.wt] at hw; omega
    rw [wsum_Dir] at hwj
    have q0 := cpS_impl_cloneArgs vs[j].args (by omega)
    have hc1 : (j : Int) < (vs.length : Int) := by omega
    have hL : j + 1 < LIM := lim_add (by omega)
    have hm : min j vs.length = j := by omega
    simp only [E_impl_cloneDirsL1, List.getD_cons_zero, List.getD_cons_succ, DC.bb_b, DC.ii_i, DC.ss_s, DC.ll_sl, Int.toNat_natCast, List.length_map, map_getD hi, TDir.enc_eq vs[j], q0, Out.bindR_ret, List.length_take, hm]
    simp [hi, hc1, hL, Out.andThenB, wrap_succ hi (show vs.length ≤ 9223372036854775807 by omega), TDir.enc_eq vs[j], map_getD hi]
  case fin => simp [E_impl_cloneDirsL1]
theorem cpS_impl_cloneIns (vs : List TInDef) (hw : DC.wt (.sl (vs.map TInDef.enc)) ≤ 1048576) : r_impl_cloneIns [.sl (vs.map TInDef.enc)] = .ret [.sl (vs.map TInDef.enc)] := by
  have hl : vs.length ≤ 1048576 := by rw [DC.wt, List.length_map] at hw; omega
  rw [eq_impl_cloneIns]
  simp only [E_impl_cloneIns, List.getD_cons_zero, DC.ll_sl]
  rw [copyB (F := E_impl_cloneInsL1) (fun j hi => ?step) ?fin]
  · rfl
  case step =>
    have hwj : wtL (TInDef.enc vs[j]) ≤ 1048576 := by have := wtV_mem (List.mem_map_of_mem (f := TInDef.enc) (List.getElem_mem hi)); rw [DC.wt] at hw; omega
    rw [wsum_InDef] at hwj
    have q0 := cp_impl_cloneValue vs[j].default' (by omega)
    rw [TValue.enc_eq] at q0
    have q1 := cpS_impl_cloneDirs vs[j].dirs (by omega)
    have hc1 : (j : Int) < (vs.length : Int) := by omega
    have hL : j + 1 < LIM := lim_add (by omega)
    have hm : min j vs.length = j := by omega
    simp only [E_impl_cloneInsL1, List.getD_cons_zero, List.getD_cons_succ, DC.bb_b, DC.ii_i, DC.ss_s, DC.ll_sl, Int.toNat_natCast, List.length_map, map_getD hi, TInDef.enc_eq vs[j], q0, q1, Out.bindR_ret, List.length_take, hm]
    simp [hi, hc1, hL, Out.andThenB, wrap_succ hi (show vs.length ≤ 9223372036854775807 by omega), TInDef.enc_eq vs[j], map_getD hi]
  case fin => simp [E_impl_cloneInsL1]
theorem cpS_impl_cloneFields (vs : List TFieldDef) (hw : DC.wt (.sl (vs.map TFieldDef.enc)) ≤ 1048576) : r_impl_cloneFields [.sl (vs.map TFieldDef.enc)] = .ret [.sl (vs.map TFieldDef.enc)] := by
  have hl : vs.length ≤ 1048576 := by rw [DC.wt, List.length_map] at hw; omega
  rw [eq_impl_cloneFields]
  simp only [E_impl_cloneFields, List.getD_cons_zero, DC.ll_sl]
  rw [copyB (F := E_impl_cloneFieldsL1) (fun j hi => ?step) ?fin]
  · rfl
  case step =>
    have hwj : wtL (TFieldDef.enc vs[j]) ≤ 1048576 := by have := wtV_mem (List.mem_map_of_mem (f := TFieldDef.enc) (List.getElem_mem hi)); rw [DC.wt] at hw; omega
    rw [wsum_FieldDef] at hwj
    have q0 := cpS_impl_cloneIns vs[j].args (by omega)
    have q1 := cpS_impl_cloneDirs vs[j].dirs (by omega)
    have hc1 : (j : Int) < (vs.length : Int) := by omega
    have hL : j + 1 < LIM := lim_add (by omega)
    have hm : min j vs.length = j := by omega
    simp only [E_impl_cloneFieldsL1, List.getD_cons_zero, List.getD_cons_succ, DC.bb_b, DC.ii_i, DC.ss_s, DC.ll_sl, Int.toNat_natCast, List.length_map, map_getD hi, TFieldDef.enc_eq vs[j], q0, q1, Out.bindR_ret, List.length_take, hm]
    simp [hi, hc1, hL, Out.andThenB, wrap_succ hi (show vs.length ≤ 9223372036854775807 by omega), TFieldDef.enc_eq vs[j], map_getD hi]
  case fin => simp [E_impl_cloneFieldsL1]
def placeOf {α : Type} (p : α → Bool) (l : List α) : Int := match l.findIdx? p with | some i => (i : Int) | none => -1
theorem goF_place {α : Type} {p : α → Bool} {g : Int → List DC} {fin : Out} : ∀ (l : List α) (i : Nat), goF p (fun i _ => .ret (g (i : Int))) fin i l = match l.findIdx? p with | some j => .ret (g ((i + j : Nat) : Int)) | none => fin
  | [], i => rfl
  | x :: l, i => by
    rw [goF, goF_place l (i + 1), List.findIdx?_cons]
    cases p x with
    | true => simp
    | false =>
      simp only [Bool.false_eq_true, if_false]
      cases l.findIdx? p with
      | none => rfl
      | some j => simp only [Option.map_some]; congr 3; omega
def typeAt (l : List TDef) (n : List UInt8) : Int := if 60 < l.length then -1 else placeOf (fun d => d.name == n) l
theorem spec_TypeAt (l : List TDef) (d r : List (List DC)) (n : List UInt8) (hl : l.length ≤ 1048576) : r_spec_TypeAt [.sl (l.map TDef.enc), .sl d, .sl r, .s n] = .ret [.i (typeAt l n)] := by
  rw [eq_spec_TypeAt]
  simp only [E_spec_TypeAt, List.getD_cons_zero, List.getD_cons_succ, DC.bb_b, DC.ii_i, DC.ss_s, DC.ll_sl]
  rw [typeAt]
  by_cases h60 : 60 < l.length
  · rw [Loop_ex (r := []) (id := 0) (by
      have h0 : (0 : Int) < (l.length : Int) := by omega
      have h1 : ¬ (l.length : Int) ≤ 60 := by omega
      simp [E_spec_TypeAtL1, h0, h1])]
    simp [h60]
  · rw [if_neg h60, show (0 : Int) = ((0 : Nat) : Int) from rfl, Loop_find0 (l := l) (st := fun i => [.s n, .i (i : Int), .sl (l.map TDef.enc), .sl d, .sl r]) (p := fun d => d.name == n) (stop := fun i _ => .ret [.i (i : Int)]) (fin := .ex 0 []) (fun i hi => ?step) (fun _ _ => Out.esc_ret _) ?fin (Out.esc_ex _ _), goF_place (g := fun i => [.i i]), placeOf]
    · cases l.findIdx? fun d => d.name == n <;> simp
    case step =>
      have h1 : (l.length : Int) ≤ 60 := by omega
      simp only [E_spec_TypeAtL1, List.getD_cons_zero, List.getD_cons_succ, DC.bb_b, DC.ii_i, DC.ss_s, DC.ll_sl, Int.toNat_natCast, List.length_map, map_getD hi, TDef.enc_eq]
      by_cases hp : l[i].name = n <;> simp [hi, hp, h1, wrap_succ hi (show l.length ≤ 9223372036854775807 by omega), map_getD hi, TDef.enc_eq]
    case fin => simp [E_spec_TypeAtL1]
theorem index_named (l : List TDef) (n : List UInt8) (hl : l.length ≤ 1048576) : r_slices_IndexFunc_impl_Def__impl_named_1 [.sl (l.map TDef.enc), .s n] = .ret [.i (placeOf (fun d => d.name == n) l), .s n] := by
  rw [eq_slices_IndexFunc_impl_Def__impl_named_1]
  simp only [E_slices_IndexFunc_impl_Def__impl_named_1, List.getD_cons_zero, List.getD_cons_succ, DC.bb_b, DC.ii_i, DC.ss_s, DC.ll_sl, List.length_map]
  rw [show (0 : Int) = ((0 : Nat) : Int) from rfl, Loop_find0 (l := l) (st := fun i => [.sl (l.map TDef.enc), .i (l.length : Int), .i (i : Int), .s n]) (p := fun d => d.name == n) (stop := fun i _ => .ret [.i (i : Int), .s n]) (fin := .ex 0 [.s n]) (fun i hi => ?step) (fun _ _ => Out.esc_ret _) ?fin (Out.esc_ex _ _), goF_place (g := fun i => [.i i, .s n]), placeOf]
  · cases l.findIdx? fun d => d.name == n <;> simp
  case step =>
    simp only [E_slices_IndexFunc_impl_Def__impl_named_1L1, List.getD_cons_zero, List.getD_cons_succ, DC.bb_b, DC.ii_i, DC.ss_s, DC.ll_sl, Int.toNat_natCast, List.length_map, map_getD hi, TDef.enc_eq, eq_impl_named_1, E_impl_named_1, Out.bindR_ret]
    by_cases hp : l[i].name = n <;> simp [hi, hp, wrap_succ hi (show l.length ≤ 9223372036854775807 by omega)]
  case fin => simp [E_slices_IndexFunc_impl_Def__impl_named_1L1]
theorem impl_named (l : List TDef) (n : List UInt8) (hl : l.length ≤ 1048576) : r_impl_named [.sl (l.map TDef.enc), .s n] = .ret [.i (typeAt l n)] := by
  rw [eq_impl_named]
  simp only [E_impl_named, List.getD_cons_zero, List.getD_cons_succ, DC.bb_b, DC.ii_i, DC.ss_s, DC.ll_sl, List.length_map, typeAt]
  by_cases h60 : 60 < l.length
  · have h1 : (l.length : Int) > 60 := by omega
    simp [h60, h1]
  · have h1 : ¬ (l.length : Int) > 60 := by omega
    simp only [h60, h1, decide_false, Bool.false_eq_true, if_false, index_named l n hl, Out.bindR_ret, List.getD_cons_zero, DC.ii_i]
theorem impl_TypeAt (l : List TDef) (d r : List (List DC)) (n : List UInt8) (hl : l.length ≤ 1048576) : r_impl_TypeAt [.sl (l.map TDef.enc), .sl d, .sl r, .s n] = .ret [.i (typeAt l n)] := by
  rw [eq_impl_TypeAt]
  simp only [E_impl_TypeAt, List.getD_cons_zero, List.getD_cons_succ, DC.bb_b, DC.ii_i, DC.ss_s, DC.ll_sl, impl_named l n hl, Out.bindR_ret]
def defOf (l : List TDef) (n : List UInt8) : Option TDef := if 60 < l.length then none else l.find? (fun d => d.name == n)
theorem place_find {α : Type} (p : α → Bool) : ∀ (l : List α), (placeOf p l = -1 ∧ l.find? p = none) ∨ ∃ (i : Nat) (h : i < l.length), placeOf p l = (i : Int) ∧ l.find? p = some l[i] ∧ p l[i] = true := by
  intro l
  induction l with
  | nil => exact .inl ⟨rfl, rfl⟩
  | cons x l ih =>
    simp only [placeOf, List.findIdx?_cons, List.find?_cons] at ih ⊢
    cases hp : p x with
    | true => exact .inr ⟨0, by simp, by simp, by simp [hp]⟩
    | false =>
      simp only [Bool.false_eq_true, if_false]
      rcases ih with ⟨h1, h2⟩ | ⟨i, h, h1, h2, h3⟩
      · left
        refine ⟨?_, h2⟩
        cases hf : l.findIdx? p with
        | none => rfl
        | some j => rw [hf] at h1; simp at h1
      · right
        refine ⟨i + 1, by simp; omega, ?_, by simpa using h2, by simpa using h3⟩
        cases hf : l.findIdx? p with
        | none => rw [hf] at h1; simp at h1
        | some j => rw [hf] at h1; simp only [Option.map_some] at h1 ⊢; omega
theorem typeAt_cases (l : List TDef) (n : List UInt8) : (typeAt l n = -1 ∧ defOf l n = none) ∨ ∃ (i : Nat) (h : i < l.length), typeAt l n = (i : Int) ∧ defOf l n = some l[i] ∧ l.length ≤ 60 := by
  unfold typeAt defOf
  by_cases h60 : 60 < l.length
  · left; simp [h60]
  · simp only [h60, if_false]
    rcases place_find (fun d : TDef => d.name == n) l with h | ⟨i, h, h1, h2, h3⟩
    · exact .inl h
    · exact .inr ⟨i, h, h1, h2, by omega⟩
def zDef : TDef := ⟨0, false, [], [], [], [], [], [], [], false, []⟩
theorem zDef_enc : zDef.enc = [.i 0, .b false, .s [], .s [], .sl [], .sl [], .sl [], .sl [], .sl [], .b false, .sl []] := rfl
theorem impl_typeDef (l : List TDef) (d r : List (List DC)) (n : List UInt8) (hl : l.length ≤ 1048576) : r_impl_typeDef [.sl (l.map TDef.enc), .sl d, .sl r, .s n] = .ret (((defOf l n).getD zDef).enc ++ [.b (defOf l n).isSome]) := by
  rw [eq_impl_typeDef]
  simp only [E_impl_typeDef, List.getD_cons_zero, List.getD_cons_succ, DC.bb_b, DC.ii_i, DC.ss_s, DC.ll_sl, impl_TypeAt l d r n hl, Out.bindR_ret]
  rcases typeAt_cases l n with ⟨h1, h2⟩ | ⟨i, h, h1, h2, _⟩
  · rw [h1, h2]
    rfl
  · rw [h1, h2]
    have hn : ¬ (i : Int) < 0 := by omega
    simp only [hn, decide_false, Bool.false_eq_true, if_false, Int.toNat_natCast, map_getD h, List.length_map, TDef.enc_eq, Option.getD_some, Option.isSome_some, List.getD_cons_zero, List.getD_cons_succ, DC.bb_b, DC.ii_i, DC.ss_s, DC.ll_sl]
    simp [h]
def builtIn (n : List UInt8) : Bool := n == [73, 110, 116] || n == [70, 108, 111, 97, 116] || n == [83, 116, 114, 105, 110, 103] || n == [66, 111, 111, 108, 101, 97, 110] || n == [73, 68]
theorem spec_BuiltIn (n : List UInt8) : r_spec_BuiltIn [.s n] = .ret [.b (builtIn n)] := by
  rw [eq_spec_BuiltIn]
  simp only [E_spec_BuiltIn, List.getD_cons_zero, DC.ss_s, builtIn]
  generalize (n == [73, 110, 116]) = a
  generalize (n == [70, 108, 111, 97, 116]) = b
  generalize (n == [83, 116, 114, 105, 110, 103]) = c
  generalize (n == [66, 111, 111, 108, 101, 97, 110]) = e
  generalize (n == [73, 68]) = f
  cases a <;> cases b <;> cases c <;> cases e <;> simp
theorem impl_BuiltIn (n : List UInt8) : r_impl_BuiltIn [.s n] = .ret [.b (builtIn n)] := by
  rw [eq_impl_BuiltIn]
  simp only [E_impl_BuiltIn, List.getD_cons_zero, DC.ss_s, builtIn]
  generalize (n == [73, 110, 116]) = a
  generalize (n == [70, 108, 111, 97, 116]) = b
  generalize (n == [83, 116, 114, 105, 110, 103]) = c
  generalize (n == [66, 111, 111, 108, 101, 97, 110]) = e
  generalize (n == [73, 68]) = f
  cases a <;> cases b <;> cases c <;> cases e <;> cases f <;> simp
def kindOf (l : List TDef) (n : List UInt8) : Int := match defOf l n with | some d => d.kind | none => if builtIn n then 1 else 0
theorem spec_KindOf (l : List TDef) (d r : List (List DC)) (n : List UInt8) (hl : l.length ≤ 1048576) : r_spec_KindOf [.sl (l.map TDef.enc), .sl d, .sl r, .s n] = .ret [.i (kindOf l n)] := by
  rw [eq_spec_KindOf]
  simp only [E_spec_KindOf, List.getD_cons_zero, List.getD_cons_succ, DC.bb_b, DC.ii_i, DC.ss_s, DC.ll_sl, spec_TypeAt l d r n hl, spec_BuiltIn, Out.bindR_ret, kindOf]
  rcases typeAt_cases l n with ⟨h1, h2⟩ | ⟨i, h, h1, h2, _⟩
  · rw [h1, h2]
    cases builtIn n <;> simp
  · rw [h1, h2]
    have hn : (i : Int) ≥ 0 := by omega
    simp only [hn, decide_true, if_true, Int.toNat_natCast, map_getD h, List.length_map, TDef.enc_eq, List.getD_cons_zero, List.getD_cons_succ, DC.bb_b, DC.ii_i, DC.ss_s, DC.ll_sl]
    simp [h]
theorem impl_KindOf (l : List TDef) (d r : List (List DC)) (n : List UInt8) (hl : l.length ≤ 1048576) : r_impl_KindOf [.sl (l.map TDef.enc), .sl d, .sl r, .s n] = .ret [.i (kindOf l n)] := by
  rw [eq_impl_KindOf]
  simp only [E_impl_KindOf, List.getD_cons_zero, List.getD_cons_succ, DC.bb_b, DC.ii_i, DC.ss_s, DC.ll_sl, impl_typeDef l d r n hl, impl_BuiltIn, Out.bindR_ret, kindOf]
  cases defOf l n with
  | none => cases builtIn n <;> simp [TDef.enc_eq]
  | some d => simp [TDef.enc_eq]
theorem spec_IsComposite (l : List TDef) (d r : List (List DC)) (n : List UInt8) (hl : l.length ≤ 1048576) : r_spec_IsComposite [.sl (l.map TDef.enc), .sl d, .sl r, .s n] = .ret [.b (kindOf l n == 2 || kindOf l n == 3 || kindOf l n == 4)] := by
  rw [eq_spec_IsComposite]
  simp only [E_spec_IsComposite, List.getD_cons_zero, List.getD_cons_succ, DC.bb_b, DC.ii_i, DC.ss_s, DC.ll_sl, spec_KindOf l d r n hl, Out.bindR_ret]
  cases kindOf l n == 2 <;> cases kindOf l n == 3 <;> simp
theorem impl_IsComposite (l : List TDef) (d r : List (List DC)) (n : List UInt8) (hl : l.length ≤ 1048576) : r_impl_IsComposite [.sl (l.map TDef.enc), .sl d, .sl r, .s n] = .ret [.b (kindOf l n == 2 || kindOf l n == 3 || kindOf l n == 4)] := by
  rw [eq_impl_IsComposite]
  simp only [E_impl_IsComposite, List.getD_cons_zero, List.getD_cons_succ, DC.bb_b, DC.ii_i, DC.ss_s, DC.ll_sl, impl_KindOf l d r n hl, Out.bindR_ret]
  cases kindOf l n == 2 <;> cases kindOf l n == 3 <;> simp
def TN : List UInt8 := [95, 95, 116, 121, 112, 101, 110, 97, 109, 101]
def tnF : TFieldDef := ⟨TN, [], [], ⟨[83, 116, 114, 105, 110, 103], [33]⟩, []⟩
def zF : TFieldDef := ⟨[], [], [], ⟨[], []⟩, []⟩
theorem zF_enc : TFieldDef.enc zF = [.s [], .s [], .sl [], .s [], .s [], .sl []] := rfl
def comp (l : List TDef) (n : List UInt8) : Bool := kindOf l n == 2 || kindOf l n == 3 || kindOf l n == 4
def fieldOf (l : List TDef) (n f : List UInt8) : Option TFieldDef :=
  if (f == TN && comp l n) = true then some tnF else
  match defOf l n with
  | some t => if (t.kind == 2 || t.kind == 3) = true then t.fields.find? (fun x => x.name == f) else none
  | none => none
def encF (o : Option TFieldDef) : List DC := TFieldDef.enc (o.getD zF) ++ [.b o.isSome]
theorem goF_field {p : TFieldDef → Bool} {fin : Out} : ∀ (l : List TFieldDef) (i : Nat), goF p (fun _ d => .ret (TFieldDef.enc d ++ [.b true])) fin i l = match l.find? p with | some d => .ret (TFieldDef.enc d ++ [.b true]) | none => fin
  | [], i => rfl
  | x :: l, i => by
    rw [goF, goF_field l (i + 1), List.find?_cons]
    cases p x <;> simp
theorem spec_fields (l : List TFieldDef) (n : List UInt8) (hl : l.length ≤ 1048576) : Loop E_spec_l18FieldL1 [.s n, .sl (l.map TFieldDef.enc), .i 0, .s [], .s [], .s [], .s []] =
    (match l.find? (fun d => d.name == n) with | some d => .ret (TFieldDef.enc d ++ [.b true]) | none => .ex 0 [.s [], .s [], .s [], .s []]) := by
  have key := Loop_find0 (F := E_spec_l18FieldL1) (l := l) (st := fun i => [.s n, .sl (l.map TFieldDef.enc), .i (i : Int), .s [], .s [], .s [], .s []]) (p := fun d => d.name == n) (stop := fun _ d => .ret (TFieldDef.enc d ++ [.b true])) (fin := .ex 0 [.s [], .s [], .s [], .s []]) (fun i hi => ?step) (fun _ _ => Out.esc_ret _) ?fin (Out.esc_ex _ _)
  · exact key.trans (goF_field l 0)
  case step =>
    have hc : (i : Int) < (l.length : Int) := by omega
    simp only [E_spec_l18FieldL1, List.getD_cons_zero, List.getD_cons_succ, DC.bb_b, DC.ii_i, DC.ss_s, DC.ll_sl, Int.toNat_natCast, List.length_map, map_getD hi, TFieldDef.enc_eq]
    by_cases hp : l[i].name = n <;> simp [hi, hc, hp, wrap_succ hi (show l.length ≤ 9223372036854775807 by omega), map_getD hi, TFieldDef.enc_eq, Out.andThen, Out.andThenB]
  case fin => simp [E_spec_l18FieldL1, Out.andThen]
theorem fields_len {l : List TDef} {t : TDef} (h : t ∈ l) (hw : DC.wt (.sl (l.map TDef.enc)) ≤ 1048576) : t.fields.length ≤ 1048576 ∧ ∀ x ∈ t.fields, 2 + wtL (TFieldDef.enc x) ≤ 1048576 := by
  have h1 := wtV_mem (List.mem_map_of_mem (f := TDef.enc) h)
  rw [DC.wt] at hw
  have hl : 0 < (l.map TDef.enc).length := by
    rw [List.length_map]; exact List.length_pos_iff.2 (fun e => by rw [e] at h; cases h)
  rw [wsum_Def] at h1
  have h3 : DC.wt (.sl (t.fields.map TFieldDef.enc)) + 1 ≤ 1048576 := by omega
  rw [DC.wt, List.length_map] at h3
  refine ⟨by omega, fun x hx => ?_⟩
  have h4 := wtV_mem (List.mem_map_of_mem (f := TFieldDef.enc) hx)
  have h5 : 0 < t.fields.length := List.length_pos_iff.2 (fun e => by rw [e] at hx; cases hx)
  omega
theorem defOf_in {l : List TDef} {n : List UInt8} {t : TDef} (h : defOf l n = some t) : t ∈ l := by
  unfold defOf at h
  split at h
  · simp at h
  · exact List.mem_of_find?_eq_some h
theorem spec_l18Field (l : List TDef) (d r : List (List DC)) (n f : List UInt8) (hw : DC.wt (.sl (l.map TDef.enc)) ≤ 1048576) : r_spec_l18Field [.sl (l.map TDef.enc), .sl d, .sl r, .s n, .s f] = .ret (encF (fieldOf l n f)) := by
  have hl : l.length ≤ 1048576 := by rw [DC.wt, List.length_map] at hw; omega
  have hC : r_spec_IsComposite [.sl (l.map TDef.enc), .sl d, .sl r, .s n] = .ret [.b (comp l n)] := spec_IsComposite l d r n hl
  have hfl : (if (f == TN) = true then Out.norm [.s n, .s f, .b (comp l n), .sl (l.map TDef.enc), .sl d, .sl r, .s [], .s [], .s [], .s []] else .norm [.s n, .s f, .b false, .sl (l.map TDef.enc), .sl d, .sl r, .s [], .s [], .s [], .s []]) = Out.norm [.s n, .s f, .b (f == TN && comp l n), .sl (l.map TDef.enc), .sl d, .sl r, .s [], .s [], .s [], .s []] := by
    cases (f == TN) <;> simp
  rw [eq_spec_l18Field]
  simp only [E_spec_l18Field, List.getD_cons_zero, List.getD_cons_succ, DC.bb_b, DC.ii_i, DC.ss_s, DC.ll_sl, hC, Out.bindR_ret]
  rw [show ([95, 95, 116, 121, 112, 101, 110, 97, 109, 101] : List UInt8) = TN from rfl, hfl]
  simp only [Out.andThen_norm, List.getD_cons_zero, List.getD_cons_succ, DC.bb_b, DC.ii_i, DC.ss_s, DC.ll_sl]
  unfold fieldOf
  cases hb : (f == TN && comp l n) with
  | true =>
    have : f = TN := by
      cases hf : (f == TN) with
      | true => exact beq_iff_eq.1 hf
      | false => rw [hf] at hb; simp at hb
    subst this
    simp [encF, tnF, TFieldDef.enc_eq]
  | false =>
    simp only [Bool.false_eq_true, if_false, spec_TypeAt l d r n hl, Out.bindR_ret, List.getD_cons_zero, DC.ii_i]
    rcases typeAt_cases l n with ⟨h1, h2⟩ | ⟨i, hi, h1, h2, h3⟩
    · rw [h1, h2]
      simp [Out.andThen, encF, zF_enc]
    · rw [h1, h2]
      obtain ⟨hfl2, _⟩ := fields_len (List.getElem_mem hi) hw
      have n0 : ¬ ((i : Int) < 0) := by omega
      have hc : (i : Int) < (l.length : Int) := by omega
      have hF := spec_fields (l[i]).fields f hfl2
      have hg : (l.map TDef.enc).getD i [] = TDef.enc l[i] := map_getD hi
      have hcc : 84 = 84 ∧ 0 ≤ (i : Int) ∧ (i : Int) < (l.length : Int) := ⟨rfl, by omega, hc⟩
      obtain ⟨t, ht⟩ : ∃ t, l[i] = t := ⟨_, rfl⟩
      rw [ht] at hg hF ⊢
      rw [TDef.enc_eq] at hg
      have fin : ∀ o : Option TFieldDef, Out.andThenB (match o with | some d => Out.ret (TFieldDef.enc d ++ [.b true]) | none => .ex 0 [.s [], .s [], .s [], .s []]) 0 (fun v7 => .ret [.s [], .s [], .sl [], .s [], .s [], .sl [], .b false]) = .ret (encF o) := by
        intro o
        cases o with
        | some d => simp [Out.andThenB, encF]
        | none => simp [Out.andThenB, encF, zF_enc]
      simp only [n0, decide_false, Bool.false_eq_true, if_false, Int.toNat_natCast, List.length_map, hg, List.getD_cons_zero, List.getD_cons_succ, DC.ii_i, DC.ll_sl, and_self, true_and, hcc.2, if_true]
      by_cases k2 : t.kind = 2
      · simp only [k2, Out.andThen, bne_self_eq_false, Bool.false_eq_true, if_false, List.getD_cons_zero, List.getD_cons_succ, DC.ii_i, DC.ll_sl, DC.bb_b, DC.ss_s, Int.toNat_natCast, List.length_map, hg, and_self, true_and, hcc.2, if_true, hF, fin, beq_self_eq_true, Bool.true_or]
      · have e2 : (t.kind != 2) = true := bne_iff_ne.2 k2
        have e2' : (t.kind == 2) = false := beq_eq_false_iff_ne.2 k2
        by_cases k3 : t.kind = 3
        · have e3 : (t.kind != 3) = false := by rw [k3]; rfl
          have e3' : (t.kind == 3) = true := beq_iff_eq.2 k3
          simp only [e2, e3, e2', e3', Out.andThen, Bool.false_eq_true, if_false, List.getD_cons_zero, List.getD_cons_succ, DC.ii_i, DC.ll_sl, DC.bb_b, DC.ss_s, Int.toNat_natCast, List.length_map, hg, and_self, true_and, hcc.2, if_true, hF, fin, Bool.or_true]
        · have e3 : (t.kind != 3) = true := bne_iff_ne.2 k3
          have e3' : (t.kind == 3) = false := beq_eq_false_iff_ne.2 k3
          simp only [e2, e3, e2', e3', Out.andThen, Bool.false_eq_true, if_false, List.getD_cons_zero, List.getD_cons_succ, DC.ii_i, DC.ll_sl, DC.bb_b, DC.ss_s, Int.toNat_natCast, List.length_map, hg, and_self, true_and, hcc.2, if_true, Bool.or_self, encF, Option.getD_none, zF_enc, Option.isSome_none, List.cons_append, List.nil_append]
theorem index_field (l : List TFieldDef) (n : List UInt8) (hl : l.length ≤ 1048576) : r_slices_IndexFunc_impl_FieldDef__impl_fieldOf_1 [.sl (l.map TFieldDef.enc), .s n] = .ret [.i (placeOf (fun d => d.name == n) l), .s n] := by
  rw [eq_slices_IndexFunc_impl_FieldDef__impl_fieldOf_1]
  simp only [E_slices_IndexFunc_impl_FieldDef__impl_fieldOf_1, List.getD_cons_zero, List.getD_cons_succ, DC.bb_b, DC.ii_i, DC.ss_s, DC.ll_sl, List.length_map]
  rw [show (0 : Int) = ((0 : Nat) : Int) from rfl, Loop_find0 (l := l) (st := fun i => [.sl (l.map TFieldDef.enc), .i (l.length : Int), .i (i : Int), .s n]) (p := fun d => d.name == n) (stop := fun i _ => .ret [.i (i : Int), .s n]) (fin := .ex 0 [.s n]) (fun i hi => ?step) (fun _ _ => Out.esc_ret _) ?fin (Out.esc_ex _ _), goF_place (g := fun i => [.i i, .s n]), placeOf]
  · cases l.findIdx? fun d => d.name == n <;> simp
  case step =>
    simp only [E_slices_IndexFunc_impl_FieldDef__impl_fieldOf_1L1, List.getD_cons_zero, List.getD_cons_succ, DC.bb_b, DC.ii_i, DC.ss_s, DC.ll_sl, Int.toNat_natCast, List.length_map, map_getD hi, TFieldDef.enc_eq, eq_impl_fieldOf_1, E_impl_fieldOf_1, Out.bindR_ret]
    by_cases hp : l[i].name = n <;> simp [hi, hp, wrap_succ hi (show l.length ≤ 9223372036854775807 by omega)]
  case fin => simp [E_slices_IndexFunc_impl_FieldDef__impl_fieldOf_1L1]
theorem impl_fieldOf (t : TDef) (f : List UInt8) (hl : t.fields.length ≤ 1048576) : r_impl_fieldOf (TDef.enc t ++ [.s f]) = .ret (encF (t.fields.find? (fun x => x.name == f))) := by
  rw [eq_impl_fieldOf]
  simp only [E_impl_fieldOf, TDef.enc_eq, List.cons_append, List.nil_append, List.getD_cons_zero, List.getD_cons_succ, DC.bb_b, DC.ii_i, DC.ss_s, DC.ll_sl, index_field t.fields f hl, Out.bindR_ret]
  rcases place_find (fun x : TFieldDef => x.name == f) t.fields with ⟨h1, h2⟩ | ⟨i, hi, h1, h2, _⟩
  · rw [h1, h2]
    simp [encF, zF_enc]
  · rw [h1, h2]
    have n0 : ¬ ((i : Int) < 0) := by omega
    have hc : (i : Int) < (t.fields.length : Int) := by omega
    simp only [n0, decide_false, Bool.false_eq_true, if_false, Int.toNat_natCast, List.length_map, map_getD hi]
    rw [if_pos ⟨trivial, by omega, hc⟩]
    simp [encF, TFieldDef.enc_eq]
theorem impl_fieldDef (l : List TDef) (d r : List (List DC)) (n f : List UInt8) (hw : DC.wt (.sl (l.map TDef.enc)) ≤ 1048576) : r_impl_fieldDef [.sl (l.map TDef.enc), .sl d, .sl r, .s n, .s f] = .ret (encF (fieldOf l n f)) := by
  have hl : l.length ≤ 1048576 := by rw [DC.wt, List.length_map] at hw; omega
  have hC : r_impl_IsComposite [.sl (l.map TDef.enc), .sl d, .sl r, .s n] = .ret [.b (comp l n)] := impl_IsComposite l d r n hl
  have hfl : (if (f == TN) = true then Out.norm [.s n, .s f, .b (comp l n), .sl (l.map TDef.enc), .sl d, .sl r, .s [], .s [], .s [], .s []] else .norm [.s n, .s f, .b false, .sl (l.map TDef.enc), .sl d, .sl r, .s [], .s [], .s [], .s []]) = Out.norm [.s n, .s f, .b (f == TN && comp l n), .sl (l.map TDef.enc), .sl d, .sl r, .s [], .s [], .s [], .s []] := by
    cases (f == TN) <;> simp
  have htd := impl_typeDef l d r n hl
  rw [eq_impl_fieldDef]
  simp only [E_impl_fieldDef, List.getD_cons_zero, List.getD_cons_succ, DC.bb_b, DC.ii_i, DC.ss_s, DC.ll_sl, hC, Out.bindR_ret]
  rw [show ([95, 95, 116, 121, 112, 101, 110, 97, 109, 101] : List UInt8) = TN from rfl, hfl]
  simp only [Out.andThen_norm, List.getD_cons_zero, List.getD_cons_succ, DC.bb_b, DC.ii_i, DC.ss_s, DC.ll_sl]
  unfold fieldOf
  cases hb : (f == TN && comp l n) with
  | true => simp [encF, tnF, TFieldDef.enc_eq]
  | false =>
    simp only [Bool.false_eq_true, if_false, htd, Out.bindR_ret]
    cases hd : defOf l n with
    | none =>
      simp [zDef_enc, Out.andThen, encF, zF_enc]
    | some t =>
      obtain ⟨hfl2, _⟩ := fields_len (defOf_in hd) hw
      have hO := impl_fieldOf t f hfl2
      simp only [TDef.enc_eq, List.cons_append, List.nil_append] at hO
      have hx : ∀ o : Option TFieldDef, (Out.ret (encF o)).bindR (fun r5 => .ret [.s ((r5.getD 0 d0).ss), .s ((r5.getD 1 d0).ss), .sl ((r5.getD 2 d0).ll), .s ((r5.getD 3 d0).ss), .s ((r5.getD 4 d0).ss), .sl ((r5.getD 5 d0).ll), .b ((r5.getD 6 d0).bb)]) = .ret (encF o) := by
        intro o
        cases o <;> simp [encF, TFieldDef.enc_eq]
      simp only [Option.getD_some, TDef.enc_eq, List.cons_append, List.nil_append, List.getD_cons_zero, List.getD_cons_succ, DC.bb_b, DC.ii_i, DC.ss_s, DC.ll_sl]
      by_cases k2 : t.kind = 2
      · have e2 : (t.kind != 2) = false := by rw [k2]; rfl
        have e2' : (t.kind == 2) = true := beq_iff_eq.2 k2
        simp only [e2, e2', Out.andThen, Bool.false_eq_true, if_false, List.getD_cons_zero, List.getD_cons_succ, DC.ii_i, DC.ll_sl, DC.bb_b, DC.ss_s, hO, hx, Bool.true_or, if_true]
      · have e2 : (t.kind != 2) = true := bne_iff_ne.2 k2
        have e2' : (t.kind == 2) = false := beq_eq_false_iff_ne.2 k2
        by_cases k3 : t.kind = 3
        · have e3 : (t.kind != 3) = false := by rw [k3]; rfl
          have e3' : (t.kind == 3) = true := beq_iff_eq.2 k3
          simp only [e2, e3, e2', e3', Out.andThen, Bool.false_eq_true, if_false, List.getD_cons_zero, List.getD_cons_succ, DC.ii_i, DC.ll_sl, DC.bb_b, DC.ss_s, hO, hx, Bool.or_true, if_true]
        · have e3 : (t.kind != 3) = true := bne_iff_ne.2 k3
          have e3' : (t.kind == 3) = false := beq_eq_false_iff_ne.2 k3
          simp only [e2, e3, e2', e3', Out.andThen, Bool.false_eq_true, if_false, List.getD_cons_zero, List.getD_cons_succ, DC.ii_i, DC.ll_sl, DC.bb_b, DC.ss_s, if_true, Bool.or_self, encF, Option.getD_none, zF_enc, Option.isSome_none, List.cons_append, List.nil_append]
def fdRes (l : List TDef) (n f : List UInt8) : TFieldDef := (fieldOf l n f).getD zF
theorem fdRes_wt (l : List TDef) (n f : List UInt8) (hw : DC.wt (.sl (l.map TDef.enc)) ≤ 1048576) : 2 + wtL (TFieldDef.enc (fdRes l n f)) ≤ 1048576 := by
  have h0 : 2 + wtL (TFieldDef.enc zF) ≤ 1048576 := by rw [wsum_FieldDef]; simp [zF, DC.wt, wtV, wsum_Type]
  have h1 : 2 + wtL (TFieldDef.enc tnF) ≤ 1048576 := by rw [wsum_FieldDef]; simp [tnF, TN, DC.wt, wtV, wsum_Type]
  unfold fdRes fieldOf
  split
  · exact h1
  · cases hd : defOf l n with
    | none => exact h0
    | some t =>
      simp only
      split
      · cases hf : t.fields.find? (fun x => x.name == f) with
        | none => exact h0
        | some x => exact (fields_len (defOf_in hd) hw).2 x (List.mem_of_find?_eq_some hf)
      · exact h0
theorem one_wt (v : TFieldDef) (h : 2 + wtL (TFieldDef.enc v) ≤ 1048576) : DC.wt (.sl ([v].map TFieldDef.enc)) ≤ 1048576 := by
  simp only [DC.wt, List.map_cons, List.map_nil, List.length_cons, List.length_nil, wtV]
  omega
theorem spec_FieldAt (l : List TDef) (d r : List (List DC)) (n f : List UInt8) (hw : DC.wt (.sl (l.map TDef.enc)) ≤ 1048576) : r_spec_FieldAt [.sl (l.map TDef.enc), .sl d, .sl r, .s n, .s f] = .ret (TFieldDef.enc (fdRes l n f) ++ [.b (fieldOf l n f).isSome]) := by
  have hl : l.length ≤ 1048576 := by rw [DC.wt, List.length_map] at hw; omega
  have h2 := cpS_spec_l13CopyFields [fdRes l n f] (one_wt _ (fdRes_wt l n f hw))
  rw [eq_spec_FieldAt]
  simp only [E_spec_FieldAt, List.getD_cons_zero, List.getD_cons_succ, DC.ss_s, DC.ll_sl, spec_l18Field l d r n f hw, Out.bindR_ret, encF]
  change _ = Out.ret (TFieldDef.enc (fdRes l n f) ++ _)
  have h3 : (fieldOf l n f).getD zF = fdRes l n f := rfl
  rw [h3]
  generalize fdRes l n f = x at h2 ⊢
  simp only [List.map_cons, List.map_nil] at h2
  rw [TFieldDef.enc_eq] at h2 ⊢
  simp only [List.cons_append, List.nil_append, List.getD_cons_zero, List.getD_cons_succ, DC.ss_s, DC.ll_sl, DC.ii_i, DC.bb_b, h2, Out.bindR_ret, List.length_cons, List.length_nil]
  simp
theorem impl_FieldAt (l : List TDef) (d r : List (List DC)) (n f : List UInt8) (hw : DC.wt (.sl (l.map TDef.enc)) ≤ 1048576) : r_impl_FieldAt [.sl (l.map TDef.enc), .sl d, .sl r, .s n, .s f] = .ret (TFieldDef.enc (fdRes l n f) ++ [.b (fieldOf l n f).isSome]) := by
  have hl : l.length ≤ 1048576 := by rw [DC.wt, List.length_map] at hw; omega
  have h2 := cpS_impl_cloneFields [fdRes l n f] (one_wt _ (fdRes_wt l n f hw))
  rw [eq_impl_FieldAt]
  simp only [E_impl_FieldAt, List.getD_cons_zero, List.getD_cons_succ, DC.ss_s, DC.ll_sl, impl_fieldDef l d r n f hw, Out.bindR_ret, encF]
  change _ = Out.ret (TFieldDef.enc (fdRes l n f) ++ _)
  unfold fdRes at h2 ⊢
  cases ho : fieldOf l n f with
  | none => simp [zF_enc]
  | some x =>
    rw [ho] at h2
    simp only [Option.getD_some, List.map_cons, List.map_nil] at h2 ⊢
    rw [TFieldDef.enc_eq] at h2 ⊢
    simp only [List.cons_append, List.nil_append, List.getD_cons_zero, List.getD_cons_succ, DC.ss_s, DC.ll_sl, DC.ii_i, DC.bb_b, h2, Out.bindR_ret, List.length_cons, List.length_nil, Option.isSome_some, Bool.not_true, Bool.false_eq_true, if_false]
    simp
mutual
theorem wfc_ok {ty : Nat → Option TI} : ∀ {t : CT} {c : DC}, WfC ty t c → c.ok
  | _, _, .b x => by simp [DC.ok]
  | _, _, .i k n _ _ => by simp [DC.ok]
  | _, _, .s l h => by rw [DC.ok]; simpa [maxLen] using h
  | _, _, .sl e te l h1 h2 h3 => by rw [DC.ok]; exact ⟨by simpa [maxLen] using h2, wfv_ok h3⟩
  | _, _, .nil e => by rw [DC.ok]; exact ⟨by simp, by rw [okV]; trivial⟩
theorem wfl_ok {ty : Nat → Option TI} : ∀ {ts : List CT} {x : List DC}, WfL ty ts x → okL x
  | _, _, .nil => by rw [okL]; trivial
  | _, _, .cons t ts x xs h1 h2 => by rw [okL]; exact ⟨wfc_ok h1, wfl_ok h2⟩
theorem wfv_ok {ty : Nat → Option TI} : ∀ {ts : List CT} {l : List (List DC)}, WfV ty ts l → okV l
  | _, _, .nil ts => by rw [okV]; trivial
  | _, _, .cons ts x l h1 h2 => by rw [okV]; exact ⟨wfl_ok h1, wfv_ok h2⟩
end
theorem decV {α : Type} {ty : Nat → Option TI} {enc : α → List DC} {cts : List CT} : ∀ {l : List (List DC)}, (∀ x ∈ l, WfL ty cts x → ∃ v, x = enc v) → WfV ty cts l → ∃ vs : List α, l = vs.map enc
  | [], _, _ => ⟨[], rfl⟩
  | x :: l, h, hw => by
    cases hw with
    | cons ts x l h1 h2 =>
      obtain ⟨v, hv⟩ := h x (by simp) h1
      obtain ⟨vs, hvs⟩ := decV (fun y hy => h y (by simp [hy])) h2
      exact ⟨v :: vs, by rw [List.map_cons, hv, hvs]⟩
theorem decC {α : Type} {ty : Nat → Option TI} {enc : α → List DC} {e : Nat} {te : TI} {c : DC} (hte : ty e = some te) (h : ∀ l, c = .sl l → ∀ x ∈ l, WfL ty te.cts x → ∃ v, x = enc v) (hw : WfC ty (.sl e) c) : ∃ vs : List α, c = .sl (vs.map enc) := by
  cases hw with
  | sl e te' l h1 h2 h3 =>
    rw [hte] at h1
    obtain rfl := Option.some.inj h1
    obtain ⟨vs, hvs⟩ := decV (h l rfl) h3
    exact ⟨vs, by rw [hvs]⟩
  | nil => exact ⟨[], rfl⟩
theorem dec_i {ty : Nat → Option TI} {k : IntKind} {c : DC} (h : WfC ty (.i k) c) : ∃ n, c = .i n ∧ k.min ≤ n ∧ n ≤ k.max := by
  cases h with
  | i k n h1 h2 => exact ⟨n, rfl, h1, h2⟩
theorem dec_b {ty : Nat → Option TI} {c : DC} (h : WfC ty .b c) : ∃ n, c = .b n := by cases h; exact ⟨_, rfl⟩
theorem dec_s {ty : Nat → Option TI} {c : DC} (h : WfC ty .s c) : ∃ n, c = .s n := by cases h; exact ⟨_, rfl⟩
theorem dec_S1 {ty : Nat → Option TI} {x : List DC} (h : WfL ty [.s] x) : ∃ n, x = S1 n := by
  cases h with
  | cons t ts x xs h1 h2 =>
    cases h2
    obtain ⟨n, rfl⟩ := dec_s h1
    exact ⟨n, rfl⟩
theorem wfl_cons {ty : Nat → Option TI} {t : CT} {ts : List CT} {x : List DC} (h : WfL ty (t :: ts) x) : ∃ c xs, x = c :: xs ∧ WfC ty t c ∧ WfL ty ts xs := by
  cases h with
  | cons t ts x xs h1 h2 => exact ⟨x, xs, rfl, h1, h2⟩
theorem wfl_nil {ty : Nat → Option TI} {x : List DC} (h : WfL ty [] x) : x = [] := by cases h; rfl
theorem mem_row_lt {l : List (List DC)} {x : List DC} (h : x ∈ l) : SizeOf.sizeOf x < SizeOf.sizeOf (DC.sl l) := by
  have := List.sizeOf_lt_of_mem h
  simp only [DC.sl.sizeOf_spec]
  omega
theorem tyS : cfg.ty 9 = some ⟨.str, [.s], 16, [], false⟩ := by kernel_rfl
theorem ty_Value : cfg.ty 168 = some ⟨.struct, [.i .i64, .s, .sl 168, .sl 9], 72, [(0, 1, false), (1, 1, false), (2, 1, false), (3, 1, false)], false⟩ := by kernel_rfl
theorem dec_Value {x : List DC} (h0 : WfL cfg.ty [.i .i64, .s, .sl 168, .sl 9] x) : ∃ v : TValue, x = TValue.enc v := by
  have h := h0
  obtain ⟨c0, r0, e0, w0, h⟩ := wfl_cons h
  obtain ⟨n0, rfl, _, _⟩ := dec_i w0
  obtain ⟨c1, r1, e1, w1, h⟩ := wfl_cons h
  obtain ⟨n1, rfl⟩ := dec_s w1
  obtain ⟨c2, r2, e2, w2, h⟩ := wfl_cons h
  have hrec2 : ∀ l, c2 = .sl l → ∀ y ∈ l, WfL cfg.ty [.i .i64, .s, .sl 168, .sl 9] y → ∃ v : TValue, y = TValue.enc v := fun l hl y hy hw => by
    have hlt : SizeOf.sizeOf y < SizeOf.sizeOf x := by
      have := mem_row_lt hy
      rw [← hl] at this
      subst e0 e1 e2
      simp only [List.cons.sizeOf_spec]
      omega
    exact dec_Value hw
  obtain ⟨n2, rfl⟩ := decC (enc := TValue.enc) ty_Value hrec2 w2
  obtain ⟨c3, r3, e3, w3, h⟩ := wfl_cons h
  obtain ⟨n3, rfl⟩ := decC (enc := S1) tyS (fun l _ y hy hw => dec_S1 hw) w3
  have hn := wfl_nil h
  refine ⟨⟨n0, n1, n2, n3⟩, ?_⟩
  rw [TValue.enc_eq]
  subst hn
  simp only [e0, e1, e2, e3]
termination_by SizeOf.sizeOf x
theorem ty_Arg : cfg.ty 221 = some ⟨.struct, [.s, .i .i64, .s, .sl 168, .sl 9], 88, [(0, 1, false), (1, 4, true)], false⟩ := by kernel_rfl
theorem dec_Arg {x : List DC} (h0 : WfL cfg.ty [.s, .i .i64, .s, .sl 168, .sl 9] x) : ∃ v : TArg, x = TArg.enc v := by
  have h := h0
  obtain ⟨c0, r0, e0, w0, h⟩ := wfl_cons h
  obtain ⟨n0, rfl⟩ := dec_s w0
  obtain ⟨c1, r1, e1, w1, h⟩ := wfl_cons h
  obtain ⟨n1, rfl, _, _⟩ := dec_i w1
  obtain ⟨c2, r2, e2, w2, h⟩ := wfl_cons h
  obtain ⟨n2, rfl⟩ := dec_s w2
  obtain ⟨c3, r3, e3, w3, h⟩ := wfl_cons h
  obtain ⟨n3, rfl⟩ := decC (enc := TValue.enc) ty_Value (fun l _ y hy hw => dec_Value hw) w3
  obtain ⟨c4, r4, e4, w4, h⟩ := wfl_cons h
  obtain ⟨n4, rfl⟩ := decC (enc := S1) tyS (fun l _ y hy hw => dec_S1 hw) w4
  have hn := wfl_nil h
  refine ⟨⟨n0, ⟨n1, n2, n3, n4⟩⟩, ?_⟩
  rw [TArg.enc_eq]
  subst hn
  simp only [e0, e1, e2, e3, e4]
theorem ty_Dir : cfg.ty 177 = some ⟨.struct, [.s, .sl 221], 40, [(0, 1, false), (1, 1, false)], false⟩ := by kernel_rfl
theorem dec_Dir {x : List DC} (h0 : WfL cfg.ty [.s, .sl 221] x) : ∃ v : TDir, x = TDir.enc v := by
  have h := h0
  obtain ⟨c0, r0, e0, w0, h⟩ := wfl_cons h
  obtain ⟨n0, rfl⟩ := dec_s w0
  obtain ⟨c1, r1, e1, w1, h⟩ := wfl_cons h
  obtain ⟨n1, rfl⟩ := decC (enc := TArg.enc) ty_Arg (fun l _ y hy hw => dec_Arg hw) w1
  have hn := wfl_nil h
  refine ⟨⟨n0, n1⟩, ?_⟩
  rw [TDir.enc_eq]
  subst hn
  simp only [e0, e1]
theorem ty_InDef : cfg.ty 170 = some ⟨.struct, [.s, .s, .s, .s, .b, .i .i64, .s, .sl 168, .sl 9, .sl 177], 168, [(0, 1, false), (1, 1, false), (2, 2, true), (4, 1, false), (5, 4, true), (9, 1, false)], false⟩ := by kernel_rfl
theorem dec_InDef {x : List DC} (h0 : WfL cfg.ty [.s, .s, .s, .s, .b, .i .i64, .s, .sl 168, .sl 9, .sl 177] x) : ∃ v : TInDef, x = TInDef.enc v := by
  have h := h0
  obtain ⟨c0, r0, e0, w0, h⟩ := wfl_cons h
  obtain ⟨n0, rfl⟩ := dec_s w0
  obtain ⟨c1, r1, e1, w1, h⟩ := wfl_cons h
  obtain ⟨n1, rfl⟩ := dec_s w1
  obtain ⟨c2, r2, e2, w2, h⟩ := wfl_cons h
  obtain ⟨n2, rfl⟩ := dec_s w2
  obtain ⟨c3, r3, e3, w3, h⟩ := wfl_cons h
  obtain ⟨n3, rfl⟩ := dec_s w3
  obtain ⟨c4, r4, e4, w4, h⟩ := wfl_cons h
  obtain ⟨n4, rfl⟩ := dec_b w4
  obtain ⟨c5, r5, e5, w5, h⟩ := wfl_cons h
  obtain ⟨n5, rfl, _, _⟩ := dec_i w5
  obtain ⟨c6, r6, e6, w6, h⟩ := wfl_cons h
  obtain ⟨n6, rfl⟩ := dec_s w6
  obtain ⟨c7, r7, e7, w7, h⟩ := wfl_cons h
  obtain ⟨n7, rfl⟩ := decC (enc := TValue.enc) ty_Value (fun l _ y hy hw => dec_Value hw) w7
  obtain ⟨c8, r8, e8, w8, h⟩ := wfl_cons h
  obtain ⟨n8, rfl⟩ := decC (enc := S1) tyS (fun l _ y hy hw => dec_S1 hw) w8
  obtain ⟨c9, r9, e9, w9, h⟩ := wfl_cons h
  obtain ⟨n9, rfl⟩ := decC (enc := TDir.enc) ty_Dir (fun l _ y hy hw => dec_Dir hw) w9
  have hn := wfl_nil h
  refine ⟨⟨n0, n1, ⟨n2, n3⟩, n4, ⟨n5, n6, n7, n8⟩, n9⟩, ?_⟩
  rw [TInDef.enc_eq]
  subst hn
  simp only [e0, e1, e2, e3, e4, e5, e6, e7, e8, e9]
theorem ty_FieldDef : cfg.ty 164 = some ⟨.struct, [.s, .s, .sl 170, .s, .s, .sl 177], 112, [(0, 1, false), (1, 1, false), (2, 1, false), (3, 2, true), (5, 1, false)], false⟩ := by kernel_rfl
theorem dec_FieldDef {x : List DC} (h0 : WfL cfg.ty [.s, .s, .sl 170, .s, .s, .sl 177] x) : ∃ v : TFieldDef, x = TFieldDef.enc v := by
  have h := h0
  obtain ⟨c0, r0, e0, w0, h⟩ := wfl_cons h
  obtain ⟨n0, rfl⟩ := dec_s w0
  obtain ⟨c1, r1, e1, w1, h⟩ := wfl_cons h
  obtain ⟨n1, rfl⟩ := dec_s w1
  obtain ⟨c2, r2, e2, w2, h⟩ := wfl_cons h
  obtain ⟨n2, rfl⟩ := decC (enc := TInDef.enc) ty_InDef (fun l _ y hy hw => dec_InDef hw) w2
  obtain ⟨c3, r3, e3, w3, h⟩ := wfl_cons h
  obtain ⟨n3, rfl⟩ := dec_s w3
  obtain ⟨c4, r4, e4, w4, h⟩ := wfl_cons h
  obtain ⟨n4, rfl⟩ := dec_s w4
  obtain ⟨c5, r5, e5, w5, h⟩ := wfl_cons h
  obtain ⟨n5, rfl⟩ := decC (enc := TDir.enc) ty_Dir (fun l _ y hy hw => dec_Dir hw) w5
  have hn := wfl_nil h
  refine ⟨⟨n0, n1, n2, ⟨n3, n4⟩, n5⟩, ?_⟩
  rw [TFieldDef.enc_eq]
  subst hn
  simp only [e0, e1, e2, e3, e4, e5]
theorem ty_EnumDef : cfg.ty 173 = some ⟨.struct, [.s, .s, .sl 177], 56, [(0, 1, false), (1, 1, false), (2, 1, false)], false⟩ := by kernel_rfl
theorem dec_EnumDef {x : List DC} (h0 : WfL cfg.ty [.s, .s, .sl 177] x) : ∃ v : TEnumDef, x = TEnumDef.enc v := by
  have h := h0
  obtain ⟨c0, r0, e0, w0, h⟩ := wfl_cons h
  obtain ⟨n0, rfl⟩ := dec_s w0
  obtain ⟨c1, r1, e1, w1, h⟩ := wfl_cons h
  obtain ⟨n1, rfl⟩ := dec_s w1
  obtain ⟨c2, r2, e2, w2, h⟩ := wfl_cons h
  obtain ⟨n2, rfl⟩ := decC (enc := TDir.enc) ty_Dir (fun l _ y hy hw => dec_Dir hw) w2
  have hn := wfl_nil h
  refine ⟨⟨n0, n1, n2⟩, ?_⟩
  rw [TEnumDef.enc_eq]
  subst hn
  simp only [e0, e1, e2]
theorem ty_Root : cfg.ty 112 = some ⟨.struct, [.i .i64, .s], 24, [(0, 1, false), (1, 1, false)], false⟩ := by kernel_rfl
theorem dec_Root {x : List DC} (h0 : WfL cfg.ty [.i .i64, .s] x) : ∃ v : TRoot, x = TRoot.enc v := by
  have h := h0
  obtain ⟨c0, r0, e0, w0, h⟩ := wfl_cons h
  obtain ⟨n0, rfl, _, _⟩ := dec_i w0
  obtain ⟨c1, r1, e1, w1, h⟩ := wfl_cons h
  obtain ⟨n1, rfl⟩ := dec_s w1
  have hn := wfl_nil h
  refine ⟨⟨n0, n1⟩, ?_⟩
  rw [TRoot.enc_eq]
  subst hn
  simp only [e0, e1]
theorem ty_Def : cfg.ty 79 = some ⟨.struct, [.i .i64, .b, .s, .s, .sl 9, .sl 164, .sl 170, .sl 173, .sl 112, .b, .sl 177], 200, [(0, 1, false), (1, 1, false), (2, 1, false), (3, 1, false), (4, 1, false), (5, 1, false), (6, 1, false), (7, 1, false), (8, 1, false), (9, 1, false), (10, 1, false)], false⟩ := by kernel_rfl
theorem dec_Def {x : List DC} (h0 : WfL cfg.ty [.i .i64, .b, .s, .s, .sl 9, .sl 164, .sl 170, .sl 173, .sl 112, .b, .sl 177] x) : ∃ v : TDef, x = TDef.enc v := by
  have h := h0
  obtain ⟨c0, r0, e0, w0, h⟩ := wfl_cons h
  obtain ⟨n0, rfl, _, _⟩ := dec_i w0
  obtain ⟨c1, r1, e1, w1, h⟩ := wfl_cons h
  obtain ⟨n1, rfl⟩ := dec_b w1
  obtain ⟨c2, r2, e2, w2, h⟩ := wfl_cons h
  obtain ⟨n2, rfl⟩ := dec_s w2
  obtain ⟨c3, r3, e3, w3, h⟩ := wfl_cons h
  obtain ⟨n3, rfl⟩ := dec_s w3
  obtain ⟨c4, r4, e4, w4, h⟩ := wfl_cons h
  obtain ⟨n4, rfl⟩ := decC (enc := S1) tyS (fun l _ y hy hw => dec_S1 hw) w4
  obtain ⟨c5, r5, e5, w5, h⟩ := wfl_cons h
  obtain ⟨n5, rfl⟩ := decC (enc := TFieldDef.enc) ty_FieldDef (fun l _ y hy hw => dec_FieldDef hw) w5
  obtain ⟨c6, r6, e6, w6, h⟩ := wfl_cons h
  obtain ⟨n6, rfl⟩ := decC (enc := TInDef.enc) ty_InDef (fun l _ y hy hw => dec_InDef hw) w6
  obtain ⟨c7, r7, e7, w7, h⟩ := wfl_cons h
  obtain ⟨n7, rfl⟩ := decC (enc := TEnumDef.enc) ty_EnumDef (fun l _ y hy hw => dec_EnumDef hw) w7
  obtain ⟨c8, r8, e8, w8, h⟩ := wfl_cons h
  obtain ⟨n8, rfl⟩ := decC (enc := TRoot.enc) ty_Root (fun l _ y hy hw => dec_Root hw) w8
  obtain ⟨c9, r9, e9, w9, h⟩ := wfl_cons h
  obtain ⟨n9, rfl⟩ := dec_b w9
  obtain ⟨c10, r10, e10, w10, h⟩ := wfl_cons h
  obtain ⟨n10, rfl⟩ := decC (enc := TDir.enc) ty_Dir (fun l _ y hy hw => dec_Dir hw) w10
  have hn := wfl_nil h
  refine ⟨⟨n0, n1, n2, n3, n4, n5, n6, n7, n8, n9, n10⟩, ?_⟩
  rw [TDef.enc_eq]
  subst hn
  simp only [e0, e1, e2, e3, e4, e5, e6, e7, e8, e9, e10]
theorem dec_Schema {x : List DC} (h0 : WfL cfg.ty [.sl 79, .sl 79, .sl 112] x) : ∃ v : TSchema, x = TSchema.enc v := by
  have h := h0
  obtain ⟨c0, r0, e0, w0, h⟩ := wfl_cons h
  obtain ⟨n0, rfl⟩ := decC (enc := TDef.enc) ty_Def (fun l _ y hy hw => dec_Def hw) w0
  obtain ⟨c1, r1, e1, w1, h⟩ := wfl_cons h
  obtain ⟨n1, rfl⟩ := decC (enc := TDef.enc) ty_Def (fun l _ y hy hw => dec_Def hw) w1
  obtain ⟨c2, r2, e2, w2, h⟩ := wfl_cons h
  obtain ⟨n2, rfl⟩ := decC (enc := TRoot.enc) ty_Root (fun l _ y hy hw => dec_Root hw) w2
  have hn := wfl_nil h
  refine ⟨⟨n0, n1, n2⟩, ?_⟩
  rw [TSchema.enc_eq]
  subst hn
  simp only [e0, e1, e2]
theorem wfl_app {ty : Nat → Option TI} : ∀ {ts1 ts2 : List CT} {x : List DC}, WfL ty (ts1 ++ ts2) x → ∃ y z, x = y ++ z ∧ WfL ty ts1 y ∧ WfL ty ts2 z
  | [], ts2, x, h => ⟨[], x, rfl, .nil, h⟩
  | t :: ts1, ts2, x, h => by
    obtain ⟨c, xs, rfl, h1, h2⟩ := wfl_cons h
    obtain ⟨y, z, rfl, h3, h4⟩ := wfl_app h2
    exact ⟨c :: y, z, rfl, .cons _ _ _ _ h1 h3, h4⟩
theorem law_FnExactFieldAt (d : List DC) (hd : WfL cfg.ty [.sl 79, .sl 79, .sl 112, .s, .s] d) : r_laws_FnExactFieldAt d = .ret [.b true] := by
  obtain ⟨y0, z0, e0, w0, hd⟩ := wfl_app (ts1 := [.sl 79, .sl 79, .sl 112]) (ts2 := [.s, .s]) hd
  obtain ⟨y1, z1, e1, w1, hd⟩ := wfl_app (ts1 := [.s]) (ts2 := [.s]) hd
  obtain ⟨y2, z2, e2, w2, hd⟩ := wfl_app (ts1 := [.s]) (ts2 := []) hd
  have hz := wfl_nil hd
  have k0 := wfl_ok w0
  obtain ⟨a0, g0⟩ := dec_Schema w0
  subst g0
  obtain ⟨c1, q1, f1, v1, u1⟩ := wfl_cons w1
  have x1 := wfl_nil u1
  have k1 := wfc_ok v1
  obtain ⟨a1, g1⟩ := dec_s v1
  subst g1 x1 f1
  obtain ⟨c2, q2, f2, v2, u2⟩ := wfl_cons w2
  have x2 := wfl_nil u2
  have k2 := wfc_ok v2
  obtain ⟨a2, g2⟩ := dec_s v2
  subst g2 x2 f2
  subst hz
  subst e2
  subst e1
  subst e0
  rw [eq_laws_FnExactFieldAt]
  simp only [E_laws_FnExactFieldAt, TSchema.enc_eq, List.cons_append, List.nil_append, List.append_nil, List.getD_cons_zero, List.getD_cons_succ, DC.bb_b, DC.ii_i, DC.ss_s, DC.ll_sl]
  by_cases b1 : (a1.length : Int) > 1048576
  · simp only [b1, decide_true, if_true]
  simp only [b1, decide_false, Bool.false_eq_true, if_false]
  by_cases b2 : (a2.length : Int) > 1048576
  · simp only [b2, decide_true, if_true]
  simp only [b2, decide_false, Bool.false_eq_true, if_false]
  rw [sz_Schema a0 k0 (1048576) (by omega) (by omega)]
  simp only [Out.bindR_ret, List.getD_cons_zero, List.getD_cons_succ, DC.bb_b, DC.ii_i, DC.ss_s, DC.ll_sl]
  by_cases s0 : (1048576 : Int) < ((wtL (TSchema.enc a0) : Nat) : Int)
  · rw [szR_lt s0]
    rfl
  rw [szR_ge s0]
  have s0' : ¬ (1048576 : Int) - ((wtL (TSchema.enc a0) : Nat) : Int) < 0 := by omega
  simp only [s0', decide_false, Bool.false_eq_true, if_false]
  have W0 : wtL (TSchema.enc a0) ≤ 1048576 := by omega
  have l0_types : a0.types.length ≤ 1048576 := by have h := W0; simp only [TSchema.enc_eq, wtL, DC.wt, List.length_map] at h; omega
  have l0_dirs : a0.dirs.length ≤ 1048576 := by have h := W0; simp only [TSchema.enc_eq, wtL, DC.wt, List.length_map] at h; omega
  have l0_roots : a0.roots.length ≤ 1048576 := by have h := W0; simp only [TSchema.enc_eq, wtL, DC.wt, List.length_map] at h; omega
  have w0 : DC.wt (.sl (a0.types.map TDef.enc)) ≤ 1048576 := by have h := W0; simp only [TSchema.enc_eq, wtL] at h; omega
  have hs := spec_FieldAt a0.types (a0.dirs.map TDef.enc) (a0.roots.map TRoot.enc) a1 a2 w0
  have hi := impl_FieldAt a0.types (a0.dirs.map TDef.enc) (a0.roots.map TRoot.enc) a1 a2 w0
  have hrw : wtL (TFieldDef.enc (fdRes a0.types a1 a2)) ≤ 1048576 := by have := fdRes_wt a0.types a1 a2 w0; omega
  have hq := eq_FieldDef (fdRes a0.types a1 a2) hrw
  rw [TFieldDef.enc_eq] at hs hi
  simp only [List.cons_append, List.nil_append] at hs hi
  obtain ⟨x0, x1, x2, k0, M0, p0, _, _⟩ := mha_Schema a0 1 (by omega) (by omega)
  obtain ⟨z0, z1, k1, M1, p1, _, H1⟩ := mha_FieldDef (fdRes a0.types a1 a2) 1 (by omega) (by omega)
  have n0 : ¬ k0 < 0 := by omega
  have n1 : ¬ k1 < 0 := by omega
  simp only [to_Schema a0 W0, eq_Schema a0 W0, hs, hi, TSchema.enc_eq, List.getD_cons_zero, List.getD_cons_succ, DC.bb_b, DC.ii_i, DC.ss_s, DC.ll_sl, Out.bindR_ret, bne_self_eq_false, beq_self_eq_true, Bool.not_true, Bool.false_eq_true, if_false, hq, M0, M1, markM, List.length_cons, List.length_nil, if_true, n0, n1, decide_false, H1, Out.andThen]
end Go.Proofs.QV
