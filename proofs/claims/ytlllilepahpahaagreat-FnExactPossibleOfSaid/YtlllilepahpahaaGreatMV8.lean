import Derived.Test.YtlllilepahpahaaGreatMV7
import Derived.Test.YtlllilepahpahaaGreatMV6
/- What the helpers of the laws do (written by a program). -/
namespace Go.Proofs.QV
open Go
set_option linter.unusedVariables false
set_option linter.unusedSimpArgs false
set_option maxRecDepth 100000
theorem szS_String (ns : List (List UInt8)) (ok : (DC.sl (ns.map S1)).ok) (left : Int) (h0 : 0 ≤ left) (h1 : left ≤ 1048576) : r_laws_szStringS [.sl (ns.map S1), .i left] = .ret [.i (szR left (DC.wt (.sl (ns.map S1))))] := by
  rw [DC.ok, List.length_map] at ok
  obtain ⟨hl, ok⟩ := ok
  rw [eq_laws_szStringS]
  simp only [E_laws_szStringS, List.getD_cons_zero, List.getD_cons_succ, DC.bb_b, DC.ii_i, DC.ss_s, DC.ll_sl]
  refine szS_all hl (fun i hi left h0 h1 => ?_) (fun left => ?_) h0 h1
  · have hn := okV_mem ok (S1 ns[i]) (List.mem_map_of_mem (List.getElem_mem hi))
    simp only [S1, okL, DC.ok] at hn
    have hw : IntKind.i64.wrap (left - (ns[i].length : Int)) = left - (ns[i].length : Int) := wrap64 (by omega) (by omega)
    have hc1 : (i : Int) < (ns.length : Int) := by omega
    simp only [E_laws_szStringSL1, List.getD_cons_zero, List.getD_cons_succ, DC.bb_b, DC.ii_i, DC.ss_s, DC.ll_sl, Int.toNat_natCast, List.length_map, map_getD hi, S1, wtL, DC.wt, hw]
    by_cases hc : left < (ns[i].length : Int)
    · simp [hi, hc1, hc, show left - (ns[i].length : Int) < 0 by omega]
    · simp [hi, hc1, hc, show ¬ left - (ns[i].length : Int) < 0 by omega, wrap_succ hi hl]
  · simp [E_laws_szStringSL1]
theorem toS_String (ns : List (List UInt8)) (hl : ns.length ≤ 1048576) : r_laws_toStringS [.sl (ns.map S1)] = .ret [.sl (ns.map S1)] := by
  rw [eq_laws_toStringS]
  simp only [E_laws_toStringS, List.getD_cons_zero, List.getD_cons_succ, DC.bb_b, DC.ii_i, DC.ss_s, DC.ll_sl]
  rw [if_pos ⟨by omega, by rw [List.length_map]; exact lim_of hl, trivial, by omega, by omega, rfl⟩, Int.toNat_natCast, List.length_map, show (0 : Int) = ((0 : Nat) : Int) from rfl, toS_loop hl (fun i hi cur h1 h2 => ?_) (fun cur => ?_)]
  · rfl
  · have hc1 : (i : Int) < (ns.length : Int) := by omega
    simp only [E_laws_toStringSL1, List.getD_cons_zero, List.getD_cons_succ, DC.bb_b, DC.ii_i, DC.ss_s, DC.ll_sl, Int.toNat_natCast, List.length_map, map_getD hi, h1, h2, S1]
    simp [hi, hc1, wrap_succ hi (show ns.length ≤ 9223372036854775807 by omega), setRunD]
  · simp [E_laws_toStringSL1]
theorem eqS_String (ns : List (List UInt8)) (hl : ns.length ≤ 1048576) : r_laws_eqStringS [.sl (ns.map S1), .sl (ns.map S1)] = .ret [.b true] := by
  rw [eq_laws_eqStringS]
  simp only [E_laws_eqStringS, List.getD_cons_zero, List.getD_cons_succ, DC.bb_b, DC.ii_i, DC.ss_s, DC.ll_sl]
  refine eqS_all (fun i hi => ?_) ?_
  · rw [List.length_map] at hi
    have hc1 : (i : Int) < (ns.length : Int) := by omega
    simp only [E_laws_eqStringSL1, List.getD_cons_zero, List.getD_cons_succ, DC.bb_b, DC.ii_i, DC.ss_s, DC.ll_sl, Int.toNat_natCast, List.length_map, map_getD hi, S1]
    simp [hi, hc1, wrap_succ hi (show ns.length ≤ 9223372036854775807 by omega)]
  · simp [E_laws_eqStringSL1]
theorem wsum_Value (v : TValue) : wtL (TValue.enc v) = v.text.length + DC.wt (.sl (v.items.map TValue.enc)) + DC.wt (.sl (v.names.map S1)) := by
  simp only [TValue.enc_eq, wtL, DC.wt]
  try omega
theorem szS_Value' (vs : List TValue) (hs : ∀ v ∈ vs, okL (TValue.enc v) → ∀ left : Int, 0 ≤ left → left ≤ 1048576 → r_laws_szValue [.i v.kind, .s v.text, .sl (v.items.map TValue.enc), .sl (v.names.map S1), .i left] = .ret [.i (szR left (wtL (TValue.enc v)))]) (ok : (DC.sl (vs.map TValue.enc)).ok) (left : Int) (h0 : 0 ≤ left) (h1 : left ≤ 1048576) : r_laws_szValueS [.sl (vs.map TValue.enc), .i left] = .ret [.i (szR left (DC.wt (.sl (vs.map TValue.enc))))] := by
  rw [DC.ok, List.length_map] at ok
  obtain ⟨hl, ok⟩ := ok
  rw [eq_laws_szValueS]
  simp only [E_laws_szValueS, List.getD_cons_zero, List.getD_cons_succ, DC.bb_b, DC.ii_i, DC.ss_s, DC.ll_sl]
  refine szS_all hl (fun i hi left h0 h1 => ?_) (fun left => ?_) h0 h1
  · have key := hs vs[i] (List.getElem_mem hi) (okV_mem ok _ (List.mem_map_of_mem (List.getElem_mem hi))) left h0 h1
    generalize wtL (TValue.enc vs[i]) = w at key ⊢
    have hc1 : (i : Int) < (vs.length : Int) := by omega
    simp only [E_laws_szValueSL1, List.getD_cons_zero, List.getD_cons_succ, DC.bb_b, DC.ii_i, DC.ss_s, DC.ll_sl, Int.toNat_natCast, List.length_map, map_getD hi, TValue.enc_eq, key, Out.bindR_ret]
    by_cases hc : left < (w : Int)
    · simp [hi, hc1, hc, szR_lt hc]
    · simp [hi, hc1, hc, szR_ge hc, show ¬ left - (w : Int) < 0 by omega, wrap_succ hi hl]
  · simp [E_laws_szValueSL1]
theorem sz_Value (v : TValue) : okL (TValue.enc v) → ∀ left : Int, 0 ≤ left → left ≤ 1048576 → r_laws_szValue [.i v.kind, .s v.text, .sl (v.items.map TValue.enc), .sl (v.names.map S1), .i left] = .ret [.i (szR left (wtL (TValue.enc v)))] := by
  induction v using TValue.ind with | h v ih =>
  intro ok left h0 h1
  rw [TValue.enc_eq] at ok
  simp only [okL] at ok
  rw [eq_laws_szValue]
  simp only [E_laws_szValue, List.getD_cons_zero, List.getD_cons_succ, DC.bb_b, DC.ii_i, DC.ss_s, DC.ll_sl]
  rw [wsum_Value]
  have b0 : v.text.length ≤ 9223372036854775807 := by simpa only [DC.ok] using ok.2.1
  rw [show IntKind.i64.wrap (left - (v.text.length : Int)) = left - (v.text.length : Int) from wrap64 (by omega) (by omega)]
  by_cases c0 : left < ((v.text.length : Nat) : Int)
  · have c0' : left - ((v.text.length : Nat) : Int) < 0 := by omega
    simp only [c0', decide_true, if_true]
    try rw [szR_lt (by omega)]
  have c0' : ¬ left - ((v.text.length : Nat) : Int) < 0 := by omega
  simp only [c0', decide_false, Bool.false_eq_true, if_false]
  rw [szS_Value' v.items (fun x hx => ih x hx) ok.2.2.1 ((left - ((v.text.length : Nat) : Int))) (by omega) (by omega)]
  simp only [Out.bindR_ret, List.getD_cons_zero, List.getD_cons_succ, DC.bb_b, DC.ii_i, DC.ss_s, DC.ll_sl]
  by_cases c1 : (left - ((v.text.length : Nat) : Int)) < ((DC.wt (.sl (v.items.map TValue.enc)) : Nat) : Int)
  · rw [szR_lt c1]
    simp only [show (-1 : Int) < 0 by omega, decide_true, if_true]
    try rw [szR_lt (by omega)]
  rw [szR_ge c1]
  have c1' : ¬ (left - ((v.text.length : Nat) : Int)) - ((DC.wt (.sl (v.items.map TValue.enc)) : Nat) : Int) < 0 := by omega
  simp only [c1', decide_false, Bool.false_eq_true, if_false]
  rw [szS_String v.names ok.2.2.2.1 (((left - ((v.text.length : Nat) : Int)) - ((DC.wt (.sl (v.items.map TValue.enc)) : Nat) : Int))) (by omega) (by omega)]
  simp only [Out.bindR_ret, List.getD_cons_zero, List.getD_cons_succ, DC.bb_b, DC.ii_i, DC.ss_s, DC.ll_sl]
  by_cases c2 : ((left - ((v.text.length : Nat) : Int)) - ((DC.wt (.sl (v.items.map TValue.enc)) : Nat) : Int)) < ((DC.wt (.sl (v.names.map S1)) : Nat) : Int)
  · rw [szR_lt c2]
    simp only [show (-1 : Int) < 0 by omega, decide_true, if_true]
    try rw [szR_lt (by omega)]
  rw [szR_ge c2]
  have c2' : ¬ ((left - ((v.text.length : Nat) : Int)) - ((DC.wt (.sl (v.items.map TValue.enc)) : Nat) : Int)) - ((DC.wt (.sl (v.names.map S1)) : Nat) : Int) < 0 := by omega
  simp only [c2', decide_false, Bool.false_eq_true, if_false]
  first
  | done
  | rw [show szR left (v.text.length + DC.wt (.sl (v.items.map TValue.enc)) + DC.wt (.sl (v.names.map S1))) = (((left - ((v.text.length : Nat) : Int)) - ((DC.wt (.sl (v.items.map TValue.enc)) : Nat) : Int)) - ((DC.wt (.sl (v.names.map S1)) : Nat) : Int)) from (szR_ge (by omega)).trans (by omega)]
theorem toS_Value' (vs : List TValue) (hs : ∀ v ∈ vs, wtL (TValue.enc v) ≤ 1048576 → r_laws_toValue [.i v.kind, .s v.text, .sl (v.items.map TValue.enc), .sl (v.names.map S1)] = .ret (TValue.enc v)) (hw : DC.wt (.sl (vs.map TValue.enc)) ≤ 1048576) : r_laws_toValueS [.sl (vs.map TValue.enc)] = .ret [.sl (vs.map TValue.enc)] := by
  rw [DC.wt, List.length_map] at hw
  have hl : vs.length ≤ 1048576 := by omega
  rw [eq_laws_toValueS]
  simp only [E_laws_toValueS, List.getD_cons_zero, List.getD_cons_succ, DC.bb_b, DC.ii_i, DC.ss_s, DC.ll_sl]
  rw [if_pos ⟨by omega, by rw [List.length_map]; exact lim_of hl, trivial, by omega, by omega, rfl⟩, Int.toNat_natCast, List.length_map, show (0 : Int) = ((0 : Nat) : Int) from rfl, toS_loop hl (fun i hi cur h1 h2 => ?_) (fun cur => ?_)]
  · rfl
  · have key := hs vs[i] (List.getElem_mem hi) (by have := wtV_mem (List.mem_map_of_mem (f := TValue.enc) (List.getElem_mem hi)); omega)
    have hc1 : (i : Int) < (vs.length : Int) := by omega
    simp only [E_laws_toValueSL1, List.getD_cons_zero, List.getD_cons_succ, DC.bb_b, DC.ii_i, DC.ss_s, DC.ll_sl, Int.toNat_natCast, List.length_map, map_getD hi, h1, h2, TValue.enc_eq] at key ⊢
    simp only [key, List.getD_cons_zero, List.getD_cons_succ, DC.bb_b, DC.ii_i, DC.ss_s, DC.ll_sl, Out.bindR_ret]
    simp [hi, hc1, wrap_succ hi (show vs.length ≤ 9223372036854775807 by omega), setRunD]
  · simp [E_laws_toValueSL1]
theorem to_Value (v : TValue) : wtL (TValue.enc v) ≤ 1048576 → r_laws_toValue [.i v.kind, .s v.text, .sl (v.items.map TValue.enc), .sl (v.names.map S1)] = .ret (TValue.enc v) := by
  induction v using TValue.ind with | h v ih =>
  intro hw
  rw [wsum_Value] at hw
  rw [eq_laws_toValue]
  simp only [E_laws_toValue, List.getD_cons_zero, List.getD_cons_succ, DC.bb_b, DC.ii_i, DC.ss_s, DC.ll_sl]
  rw [toS_Value' v.items (fun x hx => ih x hx) (by omega)]
  simp only [Out.bindR_ret, List.getD_cons_zero, List.getD_cons_succ, DC.bb_b, DC.ii_i, DC.ss_s, DC.ll_sl]
  rw [toS_String v.names (by have h := hw; simp only [DC.wt, List.length_map] at h; omega)]
  simp only [Out.bindR_ret, List.getD_cons_zero, List.getD_cons_succ, DC.bb_b, DC.ii_i, DC.ss_s, DC.ll_sl]
  rw [TValue.enc_eq]
theorem eqS_Value' (vs : List TValue) (hs : ∀ v ∈ vs, wtL (TValue.enc v) ≤ 1048576 → r_laws_eqValue [.i v.kind, .s v.text, .sl (v.items.map TValue.enc), .sl (v.names.map S1), .i v.kind, .s v.text, .sl (v.items.map TValue.enc), .sl (v.names.map S1)] = .ret [.b true]) (hw : DC.wt (.sl (vs.map TValue.enc)) ≤ 1048576) : r_laws_eqValueS [.sl (vs.map TValue.enc), .sl (vs.map TValue.enc)] = .ret [.b true] := by
  rw [DC.wt, List.length_map] at hw
  have hl : vs.length ≤ 1048576 := by omega
  rw [eq_laws_eqValueS]
  simp only [E_laws_eqValueS, List.getD_cons_zero, List.getD_cons_succ, DC.bb_b, DC.ii_i, DC.ss_s, DC.ll_sl]
  refine eqS_all (fun i hi => ?_) ?_
  · rw [List.length_map] at hi
    have key := hs vs[i] (List.getElem_mem hi) (by have := wtV_mem (List.mem_map_of_mem (f := TValue.enc) (List.getElem_mem hi)); omega)
    have hc1 : (i : Int) < (vs.length : Int) := by omega
    simp only [E_laws_eqValueSL1, List.getD_cons_zero, List.getD_cons_succ, DC.bb_b, DC.ii_i, DC.ss_s, DC.ll_sl, Int.toNat_natCast, List.length_map, map_getD hi, TValue.enc_eq] at key ⊢
    simp only [key, List.getD_cons_zero, List.getD_cons_succ, DC.bb_b, DC.ii_i, DC.ss_s, DC.ll_sl, Out.bindR_ret]
    simp [hi, hc1, wrap_succ hi (show vs.length ≤ 9223372036854775807 by omega)]
  · simp [E_laws_eqValueSL1]
theorem eq_Value (v : TValue) : wtL (TValue.enc v) ≤ 1048576 → r_laws_eqValue [.i v.kind, .s v.text, .sl (v.items.map TValue.enc), .sl (v.names.map S1), .i v.kind, .s v.text, .sl (v.items.map TValue.enc), .sl (v.names.map S1)] = .ret [.b true] := by
  induction v using TValue.ind with | h v ih =>
  intro hw
  rw [wsum_Value] at hw
  rw [eq_laws_eqValue]
  simp only [E_laws_eqValue, List.getD_cons_zero, List.getD_cons_succ, DC.bb_b, DC.ii_i, DC.ss_s, DC.ll_sl, bne_self_eq_false, beq_self_eq_true, Bool.not_true, Bool.false_eq_true, if_false]
  rw [eqS_Value' v.items (fun x hx => ih x hx) (by omega)]
  simp only [Out.bindR_ret, List.getD_cons_zero, List.getD_cons_succ, DC.bb_b, DC.ii_i, DC.ss_s, DC.ll_sl, bne_self_eq_false, beq_self_eq_true, Bool.not_true, Bool.false_eq_true, if_false]
  rw [eqS_String v.names (by have h := hw; simp only [DC.wt, List.length_map] at h; omega)]
  simp only [Out.bindR_ret, List.getD_cons_zero, List.getD_cons_succ, DC.bb_b, DC.ii_i, DC.ss_s, DC.ll_sl, bne_self_eq_false, beq_self_eq_true, Bool.not_true, Bool.false_eq_true, if_false]
theorem wsum_Type (v : TType) : wtL (TType.enc v) = v.name.length + v.wraps.length := by
  simp only [TType.enc_eq, wtL, DC.wt]
  try omega
theorem sz_Type (v : TType) : okL (TType.enc v) → ∀ left : Int, 0 ≤ left → left ≤ 1048576 → r_laws_szType [.s v.name, .s v.wraps, .i left] = .ret [.i (szR left (wtL (TType.enc v)))] := by
  intro ok left h0 h1
  rw [TType.enc_eq] at ok
  simp only [okL] at ok
  rw [eq_laws_szType]
  simp only [E_laws_szType, List.getD_cons_zero, List.getD_cons_succ, DC.bb_b, DC.ii_i, DC.ss_s, DC.ll_sl]
  rw [wsum_Type]
  have b0 : v.name.length ≤ 9223372036854775807 := by simpa only [DC.ok] using ok.1
  have b1 : v.wraps.length ≤ 9223372036854775807 := by simpa only [DC.ok] using ok.2.1
  rw [show IntKind.i64.wrap (left - (v.name.length : Int)) = left - (v.name.length : Int) from wrap64 (by omega) (by omega)]
  by_cases c0 : left < ((v.name.length : Nat) : Int)
  · have c0' : left - ((v.name.length : Nat) : Int) < 0 := by omega
    simp only [c0', decide_true, if_true]
    try rw [szR_lt (by omega)]
  have c0' : ¬ left - ((v.name.length : Nat) : Int) < 0 := by omega
  simp only [c0', decide_false, Bool.false_eq_true, if_false]
  rw [show IntKind.i64.wrap ((left - ((v.name.length : Nat) : Int)) - (v.wraps.length : Int)) = (left - ((v.name.length : Nat) : Int)) - (v.wraps.length : Int) from wrap64 (by omega) (by omega)]
  by_cases c1 : (left - ((v.name.length : Nat) : Int)) < ((v.wraps.length : Nat) : Int)
  · have c1' : (left - ((v.name.length : Nat) : Int)) - ((v.wraps.length : Nat) : Int) < 0 := by omega
    simp only [c1', decide_true, if_true]
    try rw [szR_lt (by omega)]
  have c1' : ¬ (left - ((v.name.length : Nat) : Int)) - ((v.wraps.length : Nat) : Int) < 0 := by omega
  simp only [c1', decide_false, Bool.false_eq_true, if_false]
  first
  | done
  | rw [show szR left (v.name.length + v.wraps.length) = ((left - ((v.name.length : Nat) : Int)) - ((v.wraps.length : Nat) : Int)) from (szR_ge (by omega)).trans (by omega)]
theorem to_Type (v : TType) : wtL (TType.enc v) ≤ 1048576 → r_laws_toType [.s v.name, .s v.wraps] = .ret (TType.enc v) := by
  intro hw
  rw [wsum_Type] at hw
  rw [eq_laws_toType]
  simp only [E_laws_toType, List.getD_cons_zero, List.getD_cons_succ, DC.bb_b, DC.ii_i, DC.ss_s, DC.ll_sl]
  rw [TType.enc_eq]
theorem eq_Type (v : TType) : wtL (TType.enc v) ≤ 1048576 → r_laws_eqType [.s v.name, .s v.wraps, .s v.name, .s v.wraps] = .ret [.b true] := by
  intro hw
  rw [wsum_Type] at hw
  rw [eq_laws_eqType]
  simp only [E_laws_eqType, List.getD_cons_zero, List.getD_cons_succ, DC.bb_b, DC.ii_i, DC.ss_s, DC.ll_sl, bne_self_eq_false, beq_self_eq_true, Bool.not_true, Bool.false_eq_true, if_false]
theorem wsum_Arg (v : TArg) : wtL (TArg.enc v) = v.name.length + wtL (TValue.enc v.value) := by
  simp only [TArg.enc_eq, wtL, DC.wt, TValue.enc_eq]
  try omega
theorem sz_Arg (v : TArg) : okL (TArg.enc v) → ∀ left : Int, 0 ≤ left → left ≤ 1048576 → r_laws_szArg [.s v.name, .i v.value.kind, .s v.value.text, .sl (v.value.items.map TValue.enc), .sl (v.value.names.map S1), .i left] = .ret [.i (szR left (wtL (TArg.enc v)))] := by
  intro ok left h0 h1
  rw [TArg.enc_eq] at ok
  simp only [okL] at ok
  rw [eq_laws_szArg]
  simp only [E_laws_szArg, List.getD_cons_zero, List.getD_cons_succ, DC.bb_b, DC.ii_i, DC.ss_s, DC.ll_sl]
  rw [wsum_Arg]
  have b0 : v.name.length ≤ 9223372036854775807 := by simpa only [DC.ok] using ok.1
  rw [show IntKind.i64.wrap (left - (v.name.length : Int)) = left - (v.name.length : Int) from wrap64 (by omega) (by omega)]
  by_cases c0 : left < ((v.name.length : Nat) : Int)
  · have c0' : left - ((v.name.length : Nat) : Int) < 0 := by omega
    simp only [c0', decide_true, if_true]
    try rw [szR_lt (by omega)]
  have c0' : ¬ left - ((v.name.length : Nat) : Int) < 0 := by omega
  simp only [c0', decide_false, Bool.false_eq_true, if_false]
  rw [sz_Value v.value (by rw [TValue.enc_eq]; simp only [okL]; exact ⟨ok.2.1, ok.2.2.1, ok.2.2.2.1, ok.2.2.2.2.1, trivial⟩) ((left - ((v.name.length : Nat) : Int))) (by omega) (by omega)]
  simp only [Out.bindR_ret, List.getD_cons_zero, List.getD_cons_succ, DC.bb_b, DC.ii_i, DC.ss_s, DC.ll_sl]
  by_cases c1 : (left - ((v.name.length : Nat) : Int)) < ((wtL (TValue.enc v.value) : Nat) : Int)
  · rw [szR_lt c1]
    simp only [show (-1 : Int) < 0 by omega, decide_true, if_true]
    try rw [szR_lt (by omega)]
  rw [szR_ge c1]
  have c1' : ¬ (left - ((v.name.length : Nat) : Int)) - ((wtL (TValue.enc v.value) : Nat) : Int) < 0 := by omega
  simp only [c1', decide_false, Bool.false_eq_true, if_false]
  first
  | done
  | rw [show szR left (v.name.length + wtL (TValue.enc v.value)) = ((left - ((v.name.length : Nat) : Int)) - ((wtL (TValue.enc v.value) : Nat) : Int)) from (szR_ge (by omega)).trans (by omega)]
theorem szS_Arg' (vs : List TArg) (hs : ∀ v ∈ vs, okL (TArg.enc v) → ∀ left : Int, 0 ≤ left → left ≤ 1048576 → r_laws_szArg [.s v.name, .i v.value.kind, .s v.value.text, .sl (v.value.items.map TValue.enc), .sl (v.value.names.map S1), .i left] = .ret [.i (szR left (wtL (TArg.enc v)))]) (ok : (DC.sl (vs.map TArg.enc)).ok) (left : Int) (h0 : 0 ≤ left) (h1 : left ≤ 1048576) : r_laws_szArgS [.sl (vs.map TArg.enc), .i left] = .ret [.i (szR left (DC.wt (.sl (vs.map TArg.enc))))] := by
  rw [DC.ok, List.length_map] at ok
  obtain ⟨hl, ok⟩ := ok
  rw [eq_laws_szArgS]
  simp only [E_laws_szArgS, List.getD_cons_zero, List.getD_cons_succ, DC.bb_b, DC.ii_i, DC.ss_s, DC.ll_sl]
  refine szS_all hl (fun i hi left h0 h1 => ?_) (fun left => ?_) h0 h1
  · have key := hs vs[i] (List.getElem_mem hi) (okV_mem ok _ (List.mem_map_of_mem (List.getElem_mem hi))) left h0 h1
    generalize wtL (TArg.enc vs[i]) = w at key ⊢
    have hc1 : (i : Int) < (vs.length : Int) := by omega
    simp only [E_laws_szArgSL1, List.getD_cons_zero, List.getD_cons_succ, DC.bb_b, DC.ii_i, DC.ss_s, DC.ll_sl, Int.toNat_natCast, List.length_map, map_getD hi, TArg.enc_eq, key, Out.bindR_ret]
    by_cases hc : left < (w : Int)
    · simp [hi, hc1, hc, szR_lt hc]
    · simp [hi, hc1, hc, szR_ge hc, show ¬ left - (w : Int) < 0 by omega, wrap_succ hi hl]
  · simp [E_laws_szArgSL1]
theorem szS_Arg (vs : List TArg) (ok : (DC.sl (vs.map TArg.enc)).ok) (left : Int) (h0 : 0 ≤ left) (h1 : left ≤ 1048576) : r_laws_szArgS [.sl (vs.map TArg.enc), .i left] = .ret [.i (szR left (DC.wt (.sl (vs.map TArg.enc))))] := szS_Arg' vs (fun v _ => sz_Arg v) ok left h0 h1
theorem to_Arg (v : TArg) : wtL (TArg.enc v) ≤ 1048576 → r_laws_toArg [.s v.name, .i v.value.kind, .s v.value.text, .sl (v.value.items.map TValue.enc), .sl (v.value.names.map S1)] = .ret (TArg.enc v) := by
  intro hw
  rw [wsum_Arg] at hw
  rw [eq_laws_toArg]
  simp only [E_laws_toArg, List.getD_cons_zero, List.getD_cons_succ, DC.bb_b, DC.ii_i, DC.ss_s, DC.ll_sl]
  rw [to_Value v.value (by omega)]
  simp only [Out.bindR_ret, TValue.enc_eq, List.getD_cons_zero, List.getD_cons_succ, DC.bb_b, DC.ii_i, DC.ss_s, DC.ll_sl]
  rw [TArg.enc_eq]
theorem toS_Arg' (vs : List TArg) (hs : ∀ v ∈ vs, wtL (TArg.enc v) ≤ 1048576 → r_laws_toArg [.s v.name, .i v.value.kind, .s v.value.text, .sl (v.value.items.map TValue.enc), .sl (v.value.names.map S1)] = .ret (TArg.enc v)) (hw : DC.wt (.sl (vs.map TArg.enc)) ≤ 1048576) : r_laws_toArgS [.sl (vs.map TArg.enc)] = .ret [.sl (vs.map TArg.enc)] := by
  rw [DC.wt, List.length_map] at hw
  have hl : vs.length ≤ 1048576 := by omega
  rw [eq_laws_toArgS]
  simp only [E_laws_toArgS, List.getD_cons_zero, List.getD_cons_succ, DC.bb_b, DC.ii_i, DC.ss_s, DC.ll_sl]
  rw [if_pos ⟨by omega, by rw [List.length_map]; exact lim_of hl, trivial, by omega, by omega, rfl⟩, Int.toNat_natCast, List.length_map, show (0 : Int) = ((0 : Nat) : Int) from rfl, toS_loop hl (fun i hi cur h1 h2 => ?_) (fun cur => ?_)]
  · rfl
  · have key := hs vs[i] (List.getElem_mem hi) (by have := wtV_mem (List.mem_map_of_mem (f := TArg.enc) (List.getElem_mem hi)); omega)
    have hc1 : (i : Int) < (vs.length : Int) := by omega
    simp only [E_laws_toArgSL1, List.getD_cons_zero, List.getD_cons_succ, DC.bb_b, DC.ii_i, DC.ss_s, DC.ll_sl, Int.toNat_natCast, List.length_map, map_getD hi, h1, h2, TArg.enc_eq] at key ⊢
    simp only [key, List.getD_cons_zero, List.getD_cons_succ, DC.bb_b, DC.ii_i, DC.ss_s, DC.ll_sl, Out.bindR_ret]
    simp [hi, hc1, wrap_succ hi (show vs.length ≤ 9223372036854775807 by omega), setRunD]
  · simp [E_laws_toArgSL1]
theorem toS_Arg (vs : List TArg) (hw : DC.wt (.sl (vs.map TArg.enc)) ≤ 1048576) : r_laws_toArgS [.sl (vs.map TArg.enc)] = .ret [.sl (vs.map TArg.enc)] := toS_Arg' vs (fun v _ => to_Arg v) hw
theorem eq_Arg (v : TArg) : wtL (TArg.enc v) ≤ 1048576 → r_laws_eqArg [.s v.name, .i v.value.kind, .s v.value.text, .sl (v.value.items.map TValue.enc), .sl (v.value.names.map S1), .s v.name, .i v.value.kind, .s v.value.text, .sl (v.value.items.map TValue.enc), .sl (v.value.names.map S1)] = .ret [.b true] := by
  intro hw
  rw [wsum_Arg] at hw
  rw [eq_laws_eqArg]
  simp only [E_laws_eqArg, List.getD_cons_zero, List.getD_cons_succ, DC.bb_b, DC.ii_i, DC.ss_s, DC.ll_sl, bne_self_eq_false, beq_self_eq_true, Bool.not_true, Bool.false_eq_true, if_false]
  rw [eq_Value v.value (by omega)]
  simp only [Out.bindR_ret, List.getD_cons_zero, List.getD_cons_succ, DC.bb_b, DC.ii_i, DC.ss_s, DC.ll_sl, bne_self_eq_false, beq_self_eq_true, Bool.not_true, Bool.false_eq_true, if_false]
theorem eqS_Arg' (vs : List TArg) (hs : ∀ v ∈ vs, wtL (TArg.enc v) ≤ 1048576 → r_laws_eqArg [.s v.name, .i v.value.kind, .s v.value.text, .sl (v.value.items.map TValue.enc), .sl (v.value.names.map S1), .s v.name, .i v.value.kind, .s v.value.text, .sl (v.value.items.map TValue.enc), .sl (v.value.names.map S1)] = .ret [.b true]) (hw : DC.wt (.sl (vs.map TArg.enc)) ≤ 1048576) : r_laws_eqArgS [.sl (vs.map TArg.enc), .sl (vs.map TArg.enc)] = .ret [.b true] := by
  rw [DC.wt, List.length_map] at hw
  have hl : vs.length ≤ 1048576 := by omega
  rw [eq_laws_eqArgS]
  simp only [E_laws_eqArgS, List.getD_cons_zero, List.getD_cons_succ, DC.bb_b, DC.ii_i, DC.ss_s, DC.ll_sl]
  refine eqS_all (fun i hi => ?_) ?_
  · rw [List.length_map] at hi
    have key := hs vs[i] (List.getElem_mem hi) (by have := wtV_mem (List.mem_map_of_mem (f := TArg.enc) (List.getElem_mem hi)); omega)
    have hc1 : (i : Int) < (vs.length : Int) := by omega
    simp only [E_laws_eqArgSL1, List.getD_cons_zero, List.getD_cons_succ, DC.bb_b, DC.ii_i, DC.ss_s, DC.ll_sl, Int.toNat_natCast, List.length_map, map_getD hi, TArg.enc_eq] at key ⊢
    simp only [key, List.getD_cons_zero, List.getD_cons_succ, DC.bb_b, DC.ii_i, DC.ss_s, DC.ll_sl, Out.bindR_ret]
    simp [hi, hc1, wrap_succ hi (show vs.length ≤ 9223372036854775807 by omega)]
  · simp [E_laws_eqArgSL1]
theorem eqS_Arg (vs : List TArg) (hw : DC.wt (.sl (vs.map TArg.enc)) ≤ 1048576) : r_laws_eqArgS [.sl (vs.map TArg.enc), .sl (vs.map TArg.enc)] = .ret [.b true] := eqS_Arg' vs (fun v _ => eq_Arg v) hw
theorem wsum_Dir (v : TDir) : wtL (TDir.enc v) = v.name.length + DC.wt (.sl (v.args.map TArg.enc)) := by
  simp only [TDir.enc_eq, wtL, DC.wt]
  try omega
theorem sz_Dir (v : TDir) : okL (TDir.enc v) → ∀ left : Int, 0 ≤ left → left ≤ 1048576 → r_laws_szDir [.s v.name, .sl (v.args.map TArg.enc), .i left] = .ret [.i (szR left (wtL (TDir.enc v)))] := by
  intro ok left h0 h1
  rw [TDir.enc_eq] at ok
  simp only [okL] at ok
  rw [eq_laws_szDir]
  simp only [E_laws_szDir, List.getD_cons_zero, List.getD_cons_succ, DC.bb_b, DC.ii_i, DC.ss_s, DC.ll_sl]
  rw [wsum_Dir]
  have b0 : v.name.length ≤ 9223372036854775807 := by simpa only [DC.ok] using ok.1
  rw [show IntKind.i64.wrap (left - (v.name.length : Int)) = left - (v.name.length : Int) from wrap64 (by omega) (by omega)]
  by_cases c0 : left < ((v.name.length : Nat) : Int)
  · have c0' : left - ((v.name.length : Nat) : Int) < 0 := by omega
    simp only [c0', decide_true, if_true]
    try rw [szR_lt (by omega)]
  have c0' : ¬ left - ((v.name.length : Nat) : Int) < 0 := by omega
  simp only [c0', decide_false, Bool.false_eq_true, if_false]
  rw [szS_Arg v.args ok.2.1 ((left - ((v.name.length : Nat) : Int))) (by omega) (by omega)]
  simp only [Out.bindR_ret, List.getD_cons_zero, List.getD_cons_succ, DC.bb_b, DC.ii_i, DC.ss_s, DC.ll_sl]
  by_cases c1 : (left - ((v.name.length : Nat) : Int)) < ((DC.wt (.sl (v.args.map TArg.enc)) : Nat) : Int)
  · rw [szR_lt c1]
    simp only [show (-1 : Int) < 0 by omega, decide_true, if_true]
    try rw [szR_lt (by omega)]
  rw [szR_ge c1]
  have c1' : ¬ (left - ((v.name.length : Nat) : Int)) - ((DC.wt (.sl (v.args.map TArg.enc)) : Nat) : Int) < 0 := by omega
  simp only [c1', decide_false, Bool.false_eq_true, if_false]
  first
  | done
  | rw [show szR left (v.name.length + DC.wt (.sl (v.args.map TArg.enc))) = ((left - ((v.name.length : Nat) : Int)) - ((DC.wt (.sl (v.args.map TArg.enc)) : Nat) : Int)) from (szR_ge (by omega)).trans (by omega)]
theorem szS_Dir' (vs : List TDir) (hs : ∀ v ∈ vs, okL (TDir.enc v) → ∀ left : Int, 0 ≤ left → left ≤ 1048576 → r_laws_szDir [.s v.name, .sl (v.args.map TArg.enc), .i left] = .ret [.i (szR left (wtL (TDir.enc v)))]) (ok : (DC.sl (vs.map TDir.enc)).ok) (left : Int) (h0 : 0 ≤ left) (h1 : left ≤ 1048576) : r_laws_szDirS [.sl (vs.map TDir.enc), .i left] = .ret [.i (szR left (DC.wt (.sl (vs.map TDir.enc))))] := by
  rw [DC.ok, List.length_map] at ok
  obtain ⟨hl, ok⟩ := ok
  rw [eq_laws_szDirS]
  simp only [E_laws_szDirS, List.getD_cons_zero, List.getD_cons_succ, DC.bb_b, DC.ii_i, DC.ss_s, DC.ll_sl]
  refine szS_all hl (fun i hi left h0 h1 => ?_) (fun left => ?_) h0 h1
  · have key := hs vs[i] (List.getElem_mem hi) (okV_mem ok _ (List.mem_map_of_mem (List.getElem_mem hi))) left h0 h1
    generalize wtL (TDir.enc vs[i]) = w at key ⊢
    have hc1 : (i : Int) < (vs.length : Int) := by omega
    simp only [E_laws_szDirSL1, List.getD_cons_zero, List.getD_cons_succ, DC.bb_b, DC.ii_i, DC.ss_s, DC.ll_sl, Int.toNat_natCast, List.length_map, map_getD hi, TDir.enc_eq, key, Out.bindR_ret]
    by_cases hc : left < (w : Int)
    · simp [hi, hc1, hc, szR_lt hc]
    · simp [hi, hc1, hc, szR_ge hc, show ¬ left - (w : Int) < 0 by omega, wrap_succ hi hl]
  · simp [E_laws_szDirSL1]
theorem szS_Dir (vs : List TDir) (ok : (DC.sl (vs.map TDir.enc)).ok) (left : Int) (h0 : 0 ≤ left) (h1 : left ≤ 1048576) : r_laws_szDirS [.sl (vs.map TDir.enc), .i left] = .ret [.i (szR left (DC.wt (.sl (vs.map TDir.enc))))] := szS_Dir' vs (fun v _ => sz_Dir v) ok left h0 h1
theorem to_Dir (v : TDir) : wtL (TDir.enc v) ≤ 1048576 → r_laws_toDir [.s v.name, .sl (v.args.map TArg.enc)] = .ret (TDir.enc v) := by
  intro hw
  rw [wsum_Dir] at hw
  rw [eq_laws_toDir]
  simp only [E_laws_toDir, List.getD_cons_zero, List.getD_cons_succ, DC.bb_b, DC.ii_i, DC.ss_s, DC.ll_sl]
  rw [toS_Arg v.args (by omega)]
  simp only [Out.bindR_ret, List.getD_cons_zero, List.getD_cons_succ, DC.bb_b, DC.ii_i, DC.ss_s, DC.ll_sl]
  rw [TDir.enc_eq]
theorem toS_Dir' (vs : List TDir) (hs : ∀ v ∈ vs, wtL (TDir.enc v) ≤ 1048576 → r_laws_toDir [.s v.name, .sl (v.args.map TArg.enc)] = .ret (TDir.enc v)) (hw : DC.wt (.sl (vs.map TDir.enc)) ≤ 1048576) : r_laws_toDirS [.sl (vs.map TDir.enc)] = .ret [.sl (vs.map TDir.enc)] := by
  rw [DC.wt, List.length_map] at hw
  have hl : vs.length ≤ 1048576 := by omega
  rw [eq_laws_toDirS]
  simp only [E_laws_toDirS, List.getD_cons_zero, List.getD_cons_succ, DC.bb_b, DC.ii_i, DC.ss_s, DC.ll_sl]
  rw [if_pos ⟨by omega, by rw [List.length_map]; exact lim_of hl, trivial, by omega, by omega, rfl⟩, Int.toNat_natCast, List.length_map, show (0 : Int) = ((0 : Nat) : Int) from rfl, toS_loop hl (fun i hi cur h1 h2 => ?_) (fun cur => ?_)]
  · rfl
  · have key := hs vs[i] (List.getElem_mem hi) (by have := wtV_mem (List.mem_map_of_mem (f := TDir.enc) (List.getElem_mem hi)); omega)
    have hc1 : (i : Int) < (vs.length : Int) := by omega
    simp only [E_laws_toDirSL1, List.getD_cons_zero, List.getD_cons_succ, DC.bb_b, DC.ii_i, DC.ss_s, DC.ll_sl, Int.toNat_natCast, List.length_map, map_getD hi, h1, h2, TDir.enc_eq] at key ⊢
    simp only [key, List.getD_cons_zero, List.getD_cons_succ, DC.bb_b, DC.ii_i, DC.ss_s, DC.ll_sl, Out.bindR_ret]
    simp [hi, hc1, wrap_succ hi (show vs.length ≤ 9223372036854775807 by omega), setRunD]
  · simp [E_laws_toDirSL1]
theorem toS_Dir (vs : List TDir) (hw : DC.wt (.sl (vs.map TDir.enc)) ≤ 1048576) : r_laws_toDirS [.sl (vs.map TDir.enc)] = .ret [.sl (vs.map TDir.enc)] := toS_Dir' vs (fun v _ => to_Dir v) hw
theorem eq_Dir (v : TDir) : wtL (TDir.enc v) ≤ 1048576 → r_laws_eqDir [.s v.name, .sl (v.args.map TArg.enc), .s v.name, .sl (v.args.map TArg.enc)] = .ret [.b true] := by
  intro hw
  rw [wsum_Dir] at hw
  rw [eq_laws_eqDir]
  simp only [E_laws_eqDir, List.getD_cons_zero, List.getD_cons_succ, DC.bb_b, DC.ii_i, DC.ss_s, DC.ll_sl, bne_self_eq_false, beq_self_eq_true, Bool.not_true, Bool.false_eq_true, if_false]
  rw [eqS_Arg v.args (by omega)]
  simp only [Out.bindR_ret, List.getD_cons_zero, List.getD_cons_succ, DC.bb_b, DC.ii_i, DC.ss_s, DC.ll_sl, bne_self_eq_false, beq_self_eq_true, Bool.not_true, Bool.false_eq_true, if_false]
theorem eqS_Dir' (vs : List TDir) (hs : ∀ v ∈ vs, wtL (TDir.enc v) ≤ 1048576 → r_laws_eqDir [.s v.name, .sl (v.args.map TArg.enc), .s v.name, .sl (v.args.map TArg.enc)] = .ret [.b true]) (hw : DC.wt (.sl (vs.map TDir.enc)) ≤ 1048576) : r_laws_eqDirS [.sl (vs.map TDir.enc), .sl (vs.map TDir.enc)] = .ret [.b true] := by
  rw [DC.wt, List.length_map] at hw
  have hl : vs.length ≤ 1048576 := by omega
  rw [eq_laws_eqDirS]
  simp only [E_laws_eqDirS, List.getD_cons_zero, List.getD_cons_succ, DC.bb_b, DC.ii_i, DC.ss_s, DC.ll_sl]
  refine eqS_all (fun i hi => ?_) ?_
  · rw [List.length_map] at hi
    have key := hs vs[i] (List.getElem_mem hi) (by have := wtV_mem (List.mem_map_of_mem (f := TDir.enc) (List.getElem_mem hi)); omega)
    have hc1 : (i : Int) < (vs.length : Int) := by omega
    simp only [E_laws_eqDirSL1, List.getD_cons_zero, List.getD_cons_succ, DC.bb_b, DC.ii_i, DC.ss_s, DC.ll_sl, Int.toNat_natCast, List.length_map, map_getD hi, TDir.enc_eq] at key ⊢
    simp only [key, List.getD_cons_zero, List.getD_cons_succ, DC.bb_b, DC.ii_i, DC.ss_s, DC.ll_sl, Out.bindR_ret]
    simp [hi, hc1, wrap_succ hi (show vs.length ≤ 9223372036854775807 by omega)]
  · simp [E_laws_eqDirSL1]
theorem eqS_Dir (vs : List TDir) (hw : DC.wt (.sl (vs.map TDir.enc)) ≤ 1048576) : r_laws_eqDirS [.sl (vs.map TDir.enc), .sl (vs.map TDir.enc)] = .ret [.b true] := eqS_Dir' vs (fun v _ => eq_Dir v) hw
theorem wsum_InDef (v : TInDef) : wtL (TInDef.enc v) = v.name.length + v.desc.length + wtL (TType.enc v.type') + wtL (TValue.enc v.default') + DC.wt (.sl (v.dirs.map TDir.enc)) := by
  simp only [TInDef.enc_eq, wtL, DC.wt, TType.enc_eq, TValue.enc_eq]
  try omega
theorem sz_InDef (v : TInDef) : okL (TInDef.enc v) → ∀ left : Int, 0 ≤ left → left ≤ 1048576 → r_laws_szInDef [.s v.name, .s v.desc, .s v.type'.name, .s v.type'.wraps, .b v.has', .i v.default'.kind, .s v.default'.text, .sl (v.default'.items.map TValue.enc), .sl (v.default'.names.map S1), .sl (v.dirs.map TDir.enc), .i left] = .ret [.i (szR left (wtL (TInDef.enc v)))] := by
  intro ok left h0 h1
  rw [TInDef.enc_eq] at ok
  simp only [okL] at ok
  rw [eq_laws_szInDef]
  simp only [E_laws_szInDef, List.getD_cons_zero, List.getD_cons_succ, DC.bb_b, DC.ii_i, DC.ss_s, DC.ll_sl]
  rw [wsum_InDef]
  have b0 : v.name.length ≤ 9223372036854775807 := by simpa only [DC.ok] using ok.1
  have b1 : v.desc.length ≤ 9223372036854775807 := by simpa only [DC.ok] using ok.2.1
  rw [show IntKind.i64.wrap (left - (v.name.length : Int)) = left - (v.name.length : Int) from wrap64 (by omega) (by omega)]
  by_cases c0 : left < ((v.name.length : Nat) : Int)
  · have c0' : left - ((v.name.length : Nat) : Int) < 0 := by omega
    simp only [c0', decide_true, if_true]
    try rw [szR_lt (by omega)]
  have c0' : ¬ left - ((v.name.length : Nat) : Int) < 0 := by omega
  simp only [c0', decide_false, Bool.false_eq_true, if_false]
  rw [show IntKind.i64.wrap ((left - ((v.name.length : Nat) : Int)) - (v.desc.length : Int)) = (left - ((v.name.length : Nat) : Int)) - (v.desc.length : Int) from wrap64 (by omega) (by omega)]
  by_cases c1 : (left - ((v.name.length : Nat) : Int)) < ((v.desc.length : Nat) : Int)
  · have c1' : (left - ((v.name.length : Nat) : Int)) - ((v.desc.length : Nat) : Int) < 0 := by omega
    simp only [c1', decide_true, if_true]
    try rw [szR_lt (by omega)]
  have c1' : ¬ (left - ((v.name.length : Nat) : Int)) - ((v.desc.length : Nat) : Int) < 0 := by omega
  simp only [c1', decide_false, Bool.false_eq_true, if_false]
  rw [sz_Type v.type' (by rw [TType.enc_eq]; simp only [okL]; exact ⟨ok.2.2.1, ok.2.2.2.1, trivial⟩) (((left - ((v.name.length : Nat) : Int)) - ((v.desc.length : Nat) : Int))) (by omega) (by omega)]
  simp only [Out.bindR_ret, List.getD_cons_zero, List.getD_cons_succ, DC.bb_b, DC.ii_i, DC.ss_s, DC.ll_sl]
  by_cases c2 : ((left - ((v.name.length : Nat) : Int)) - ((v.desc.length : Nat) : Int)) < ((wtL (TType.enc v.type') : Nat) : Int)
  · rw [szR_lt c2]
    simp only [show (-1 : Int) < 0 by omega, decide_true, if_true]
    try rw [szR_lt (by omega)]
  rw [szR_ge c2]
  have c2' : ¬ ((left - ((v.name.length : Nat) : Int)) - ((v.desc.length : Nat) : Int)) - ((wtL (TType.enc v.type') : Nat) : Int) < 0 := by omega
  simp only [c2', decide_false, Bool.false_eq_true, if_false]
  rw [sz_Value v.default' (by rw [TValue.enc_eq]; simp only [okL]; exact ⟨ok.2.2.2.2.2.1, ok.2.2.2.2.2.2.1, ok.2.2.2.2.2.2.2.1, ok.2.2.2.2.2.2.2.2.1, trivial⟩) ((((left - ((v.name.length : Nat) : Int)) - ((v.desc.length : Nat) : Int)) - ((wtL (TType.enc v.type') : Nat) : Int))) (by omega) (by omega)]
  simp only [Out.bindR_ret, List.getD_cons_zero, List.getD_cons_succ, DC.bb_b, DC.ii_i, DC.ss_s, DC.ll_sl]
  by_cases c3 : (((left - ((v.name.length : Nat) : Int)) - ((v.desc.length : Nat) : Int)) - ((wtL (TType.enc v.type') : Nat) : Int)) < ((wtL (TValue.enc v.default') : Nat) : Int)
  · rw [szR_lt c3]
    simp only [show (-1 : Int) < 0 by omega, decide_true, if_true]
    try rw [szR_lt (by omega)]
  rw [szR_ge c3]
  have c3' : ¬ (((left - ((v.name.length : Nat) : Int)) - ((v.desc.length : Nat) : Int)) - ((wtL (TType.enc v.type') : Nat) : Int)) - ((wtL (TValue.enc v.default') : Nat) : Int) < 0 := by omega
  simp only [c3', decide_false, Bool.false_eq_true, if_false]
  rw [szS_Dir v.dirs ok.2.2.2.2.2.2.2.2.2.1 (((((left - ((v.name.length : Nat) : Int)) - ((v.desc.length : Nat) : Int)) - ((wtL (TType.enc v.type') : Nat) : Int)) - ((wtL (TValue.enc v.default') : Nat) : Int))) (by omega) (by omega)]
  simp only [Out.bindR_ret, List.getD_cons_zero, List.getD_cons_succ, DC.bb_b, DC.ii_i, DC.ss_s, DC.ll_sl]
  by_cases c4 : ((((left - ((v.name.length : Nat) : Int)) - ((v.desc.length : Nat) : Int)) - ((wtL (TType.enc v.type') : Nat) : Int)) - ((wtL (TValue.enc v.default') : Nat) : Int)) < ((DC.wt (.sl (v.dirs.map TDir.enc)) : Nat) : Int)
  · rw [szR_lt c4]
    simp only [show (-1 : Int) < 0 by omega, decide_true, if_true]
    try rw [szR_lt (by omega)]
  rw [szR_ge c4]
  have c4' : ¬ ((((left - ((v.name.length : Nat) : Int)) - ((v.desc.length : Nat) : Int)) - ((wtL (TType.enc v.type') : Nat) : Int)) - ((wtL (TValue.enc v.default') : Nat) : Int)) - ((DC.wt (.sl (v.dirs.map TDir.enc)) : Nat) : Int) < 0 := by omega
  simp only [c4', decide_false, Bool.false_eq_true, if_false]
  first
  | done
  | rw [show szR left (v.name.length + v.desc.length + wtL (TType.enc v.type') + wtL (TValue.enc v.default') + DC.wt (.sl (v.dirs.map TDir.enc))) = (((((left - ((v.name.length : Nat) : Int)) - ((v.desc.length : Nat) : Int)) - ((wtL (TType.enc v.type') : Nat) : Int)) - ((wtL (TValue.enc v.default') : Nat) : Int)) - ((DC.wt (.sl (v.dirs.map TDir.enc)) : Nat) : Int)) from (szR_ge (by omega)).trans (by omega)]
theorem szS_InDef' (vs : List TInDef) (hs : ∀ v ∈ vs, okL (TInDef.enc v) → ∀ left : Int, 0 ≤ left → left ≤ 1048576 → r_laws_szInDef [.s v.name, .s v.desc, .s v.type'.name, .s v.type'.wraps, .b v.has', .i v.default'.kind, .s v.default'.text, .sl (v.default'.items.map TValue.enc), .sl (v.default'.names.map S1), .sl (v.dirs.map TDir.enc), .i left] = .ret [.i (szR left (wtL (TInDef.enc v)))]) (ok : (DC.sl (vs.map TInDef.enc)).ok) (left : Int) (h0 : 0 ≤ left) (h1 : left ≤ 1048576) : r_laws_szInDefS [.sl (vs.map TInDef.enc), .i left] = .ret [.i (szR left (DC.wt (.sl (vs.map TInDef.enc))))] := by
  rw [DC.ok, List.length_map] at ok
  obtain ⟨hl, ok⟩ := ok
  rw [eq_laws_szInDefS]
  simp only [E_laws_szInDefS, List.getD_cons_zero, List.getD_cons_succ, DC.bb_b, DC.ii_i, DC.ss_s, DC.ll_sl]
  refine szS_all hl (fun i hi left h0 h1 => ?_) (fun left => ?_) h0 h1
  · have key := hs vs[i] (List.getElem_mem hi) (okV_mem ok _ (List.mem_map_of_mem (List.getElem_mem hi))) left h0 h1
    generalize wtL (TInDef.enc vs[i]) = w at key ⊢
    have hc1 : (i : Int) < (vs.length : Int) := by omega
    simp only [E_laws_szInDefSL1, List.getD_cons_zero, List.getD_cons_succ, DC.bb_b, DC.ii_i, DC.ss_s, DC.ll_sl, Int.toNat_natCast, List.length_map, map_getD hi, TInDef.enc_eq, key, Out.bindR_ret]
    by_cases hc : left < (w : Int)
    · simp [hi, hc1, hc, szR_lt hc]
    · simp [hi, hc1, hc, szR_ge hc, show ¬ left - (w : Int) < 0 by omega, wrap_succ hi hl]
  · simp [E_laws_szInDefSL1]
theorem szS_InDef (vs : List TInDef) (ok : (DC.sl (vs.map TInDef.enc)).ok) (left : Int) (h0 : 0 ≤ left) (h1 : left ≤ 1048576) : r_laws_szInDefS [.sl (vs.map TInDef.enc), .i left] = .ret [.i (szR left (DC.wt (.sl (vs.map TInDef.enc))))] := szS_InDef' vs (fun v _ => sz_InDef v) ok left h0 h1
theorem to_InDef (v : TInDef) : wtL (TInDef.enc v) ≤ 1048576 → r_laws_toInDef [.s v.name, .s v.desc, .s v.type'.name, .s v.type'.wraps, .b v.has', .i v.default'.kind, .s v.default'.text, .sl (v.default'.items.map TValue.enc), .sl (v.default'.names.map S1), .sl (v.dirs.map TDir.enc)] = .ret (TInDef.enc v) := by
  intro hw
  rw [wsum_InDef] at hw
  rw [eq_laws_toInDef]
  simp only [E_laws_toInDef, List.getD_cons_zero, List.getD_cons_succ, DC.bb_b, DC.ii_i, DC.ss_s, DC.ll_sl]
  rw [to_Type v.type' (by omega)]
  simp only [Out.bindR_ret, TType.enc_eq, List.getD_cons_zero, List.getD_cons_succ, DC.bb_b, DC.ii_i, DC.ss_s, DC.ll_sl]
  rw [to_Value v.default' (by omega)]
  simp only [Out.bindR_ret, TValue.enc_eq, List.getD_cons_zero, List.getD_cons_succ, DC.bb_b, DC.ii_i, DC.ss_s, DC.ll_sl]
  rw [toS_Dir v.dirs (by omega)]
  simp only [Out.bindR_ret, List.getD_cons_zero, List.getD_cons_succ, DC.bb_b, DC.ii_i, DC.ss_s, DC.ll_sl]
  rw [TInDef.enc_eq]
theorem toS_InDef' (vs : List TInDef) (hs : ∀ v ∈ vs, wtL (TInDef.enc v) ≤ 1048576 → r_laws_toInDef [.s v.name, .s v.desc, .s v.type'.name, .s v.type'.wraps, .b v.has', .i v.default'.kind, .s v.default'.text, .sl (v.default'.items.map TValue.enc), .sl (v.default'.names.map S1), .sl (v.dirs.map TDir.enc)] = .ret (TInDef.enc v)) (hw : DC.wt (.sl (vs.map TInDef.enc)) ≤ 1048576) : r_laws_toInDefS [.sl (vs.map TInDef.enc)] = .ret [.sl (vs.map TInDef.enc)] := by
  rw [DC.wt, List.length_map] at hw
  have hl : vs.length ≤ 1048576 := by omega
  rw [eq_laws_toInDefS]
  simp only [E_laws_toInDefS, List.getD_cons_zero, List.getD_cons_succ, DC.bb_b, DC.ii_i, DC.ss_s, DC.ll_sl]
  rw [if_pos ⟨by omega, by rw [List.length_map]; exact lim_of hl, trivial, by omega, by omega, rfl⟩, Int.toNat_natCast, List.length_map, show (0 : Int) = ((0 : Nat) : Int) from rfl, toS_loop hl (fun i hi cur h1 h2 => ?_) (fun cur => ?_)]
  · rfl
  · have key := hs vs[i] (List.getElem_mem hi) (by have := wtV_mem (List.mem_map_of_mem (f := TInDef.enc) (List.getElem_mem hi)); omega)
    have hc1 : (i : Int) < (vs.length : Int) := by omega
    simp only [E_laws_toInDefSL1, List.getD_cons_zero, List.getD_cons_succ, DC.bb_b, DC.ii_i, DC.ss_s, DC.ll_sl, Int.toNat_natCast, List.length_map, map_getD hi, h1, h2, TInDef.enc_eq] at key ⊢
    simp only [key, List.getD_cons_zero, List.getD_cons_succ, DC.bb_b, DC.ii_i, DC.ss_s, DC.ll_sl, Out.bindR_ret]
    simp [hi, hc1, wrap_succ hi (show vs.length ≤ 9223372036854775807 by omega), setRunD]
  · simp [E_laws_toInDefSL1]
theorem toS_InDef (vs : List TInDef) (hw : DC.wt (.sl (vs.map TInDef.enc)) ≤ 1048576) : r_laws_toInDefS [.sl (vs.map TInDef.enc)] = .ret [.sl (vs.map TInDef.enc)] := toS_InDef' vs (fun v _ => to_InDef v) hw
theorem eq_InDef (v : TInDef) : wtL (TInDef.enc v) ≤ 1048576 → r_laws_eqInDef [.s v.name, .s v.desc, .s v.type'.name, .s v.type'.wraps, .b v.has', .i v.default'.kind, .s v.default'.text, .sl (v.default'.items.map TValue.enc), .sl (v.default'.names.map S1), .sl (v.dirs.map TDir.enc), .s v.name, .s v.desc, .s v.type'.name, .s v.type'.wraps, .b v.has', .i v.default'.kind, .s v.default'.text, .sl (v.default'.items.map TValue.enc), .sl (v.default'.names.map S1), .sl (v.dirs.map TDir.enc)] = .ret [.b true] := by
  intro hw
  rw [wsum_InDef] at hw
  rw [eq_laws_eqInDef]
  simp only [E_laws_eqInDef, List.getD_cons_zero, List.getD_cons_succ, DC.bb_b, DC.ii_i, DC.ss_s, DC.ll_sl, bne_self_eq_false, beq_self_eq_true, Bool.not_true, Bool.false_eq_true, if_false]
  rw [eq_Type v.type' (by omega)]
  simp only [Out.bindR_ret, List.getD_cons_zero, List.getD_cons_succ, DC.bb_b, DC.ii_i, DC.ss_s, DC.ll_sl, bne_self_eq_false, beq_self_eq_true, Bool.not_true, Bool.false_eq_true, if_false]
  rw [eq_Value v.default' (by omega)]
  simp only [Out.bindR_ret, List.getD_cons_zero, List.getD_cons_succ, DC.bb_b, DC.ii_i, DC.ss_s, DC.ll_sl, bne_self_eq_false, beq_self_eq_true, Bool.not_true, Bool.false_eq_true, if_false]
  rw [eqS_Dir v.dirs (by omega)]
  simp only [Out.bindR_ret, List.getD_cons_zero, List.getD_cons_succ, DC.bb_b, DC.ii_i, DC.ss_s, DC.ll_sl, bne_self_eq_false, beq_self_eq_true, Bool.not_true, Bool.false_eq_true, if_false]
theorem eqS_InDef' (vs : List TInDef) (hs : ∀ v ∈ vs, wtL (TInDef.enc v) ≤ 1048576 → r_laws_eqInDef [.s v.name, .s v.desc, .s v.type'.name, .s v.type'.wraps, .b v.has', .i v.default'.kind, .s v.default'.text, .sl (v.default'.items.map TValue.enc), .sl (v.default'.names.map S1), .sl (v.dirs.map TDir.enc), .s v.name, .s v.desc, .s v.type'.name, .s v.type'.wraps, .b v.has', .i v.default'.kind, .s v.default'.text, .sl (v.default'.items.map TValue.enc), .sl (v.default'.names.map S1), .sl (v.dirs.map TDir.enc)] = .ret [.b true]) (hw : DC.wt (.sl (vs.map TInDef.enc)) ≤ 1048576) : r_laws_eqInDefS [.sl (vs.map TInDef.enc), .sl (vs.map TInDef.enc)] = .ret [.b true] := by
  rw [DC.wt, List.length_map] at hw
  have hl : vs.length ≤ 1048576 := by omega
  rw [eq_laws_eqInDefS]
  simp only [E_laws_eqInDefS, List.getD_cons_zero, List.getD_cons_succ, DC.bb_b, DC.ii_i, DC.ss_s, DC.ll_sl]
  refine eqS_all (fun i hi => ?_) ?_
  · rw [List.length_map] at hi
    have key := hs vs[i] (List.getElem_mem hi) (by have := wtV_mem (List.mem_map_of_mem (f := TInDef.enc) (List.getElem_mem hi)); omega)
    have hc1 : (i : Int) < (vs.length : Int) := by omega
    simp only [E_laws_eqInDefSL1, List.getD_cons_zero, List.getD_cons_succ, DC.bb_b, DC.ii_i, DC.ss_s, DC.ll_sl, Int.toNat_natCast, List.length_map, map_getD hi, TInDef.enc_eq] at key ⊢
    simp only [key, List.getD_cons_zero, List.getD_cons_succ, DC.bb_b, DC.ii_i, DC.ss_s, DC.ll_sl, Out.bindR_ret]
    simp [hi, hc1, wrap_succ hi (show vs.length ≤ 9223372036854775807 by omega)]
  · simp [E_laws_eqInDefSL1]
theorem eqS_InDef (vs : List TInDef) (hw : DC.wt (.sl (vs.map TInDef.enc)) ≤ 1048576) : r_laws_eqInDefS [.sl (vs.map TInDef.enc), .sl (vs.map TInDef.enc)] = .ret [.b true] := eqS_InDef' vs (fun v _ => eq_InDef v) hw
theorem wsum_FieldDef (v : TFieldDef) : wtL (TFieldDef.enc v) = v.name.length + v.desc.length + DC.wt (.sl (v.args.map TInDef.enc)) + wtL (TType.enc v.type') + DC.wt (.sl (v.dirs.map TDir.enc)) := by
  simp only [TFieldDef.enc_eq, wtL, DC.wt, TType.enc_eq]
  try omega
theorem sz_FieldDef (v : TFieldDef) : okL (TFieldDef.enc v) → ∀ left : Int, 0 ≤ left → left ≤ 1048576 → r_laws_szFieldDef [.s v.name, .s v.desc, .sl (v.args.map TInDef.enc), .s v.type'.name, .s v.type'.wraps, .sl (v.dirs.map TDir.enc), .i left] = .ret [.i (szR left (wtL (TFieldDef.enc v)))] := by
  intro ok left h0 h1
  rw [TFieldDef.enc_eq] at ok
  simp only [okL] at ok
  rw [eq_laws_szFieldDef]
  simp only [E_laws_szFieldDef, List.getD_cons_zero, List.getD_cons_succ, DC.bb_b, DC.ii_i, DC.ss_s, DC.ll_sl]
  rw [wsum_FieldDef]
  have b0 : v.name.length ≤ 9223372036854775807 := by simpa only [DC.ok] using ok.1
  have b1 : v.desc.length ≤ 9223372036854775807 := by simpa only [DC.ok] using ok.2.1
  rw [show IntKind.i64.wrap (left - (v.name.length : Int)) = left - (v.name.length : Int) from wrap64 (by omega) (by omega)]
  by_cases c0 : left < ((v.name.length : Nat) : Int)
  · have c0' : left - ((v.name.length : Nat) : Int) < 0 := by omega
    simp only [c0', decide_true, if_true]
    try rw [szR_lt (by omega)]
  have c0' : ¬ left - ((v.name.length : Nat) : Int) < 0 := by omega
  simp only [c0', decide_false, Bool.false_eq_true, if_false]
  rw [show IntKind.i64.wrap ((left - ((v.name.length : Nat) : Int)) - (v.desc.length : Int)) = (left - ((v.name.length : Nat) : Int)) - (v.desc.length : Int) from wrap64 (by omega) (by omega)]
  by_cases c1 : (left - ((v.name.length : Nat) : Int)) < ((v.desc.length : Nat) : Int)
  · have c1' : (left - ((v.name.length : Nat) : Int)) - ((v.desc.length : Nat) : Int) < 0 := by omega
    simp only [c1', decide_true, if_true]
    try rw [szR_lt (by omega)]
  have c1' : ¬ (left - ((v.name.length : Nat) : Int)) - ((v.desc.length : Nat) : Int) < 0 := by omega
  simp only [c1', decide_false, Bool.false_eq_true, if_false]
  rw [szS_InDef v.args ok.2.2.1 (((left - ((v.name.length : Nat) : Int)) - ((v.desc.length : Nat) : Int))) (by omega) (by omega)]
  simp only [Out.bindR_ret, List.getD_cons_zero, List.getD_cons_succ, DC.bb_b, DC.ii_i, DC.ss_s, DC.ll_sl]
  by_cases c2 : ((left - ((v.name.length : Nat) : Int)) - ((v.desc.length : Nat) : Int)) < ((DC.wt (.sl (v.args.map TInDef.enc)) : Nat) : Int)
  · rw [szR_lt c2]
    simp only [show (-1 : Int) < 0 by omega, decide_true, if_true]
    try rw [szR_lt (by omega)]
  rw [szR_ge c2]
  have c2' : ¬ ((left - ((v.name.length : Nat) : Int)) - ((v.desc.length : Nat) : Int)) - ((DC.wt (.sl (v.args.map TInDef.enc)) : Nat) : Int) < 0 := by omega
  simp only [c2', decide_false, Bool.false_eq_true, if_false]
  rw [sz_Type v.type' (by rw [TType.enc_eq]; simp only [okL]; exact ⟨ok.2.2.2.1, ok.2.2.2.2.1, trivial⟩) ((((left - ((v.name.length : Nat) : Int)) - ((v.desc.length : Nat) : Int)) - ((DC.wt (.sl (v.args.map TInDef.enc)) : Nat) : Int))) (by omega) (by omega)]
  simp only [Out.bindR_ret, List.getD_cons_zero, List.getD_cons_succ, DC.bb_b, DC.ii_i, DC.ss_s, DC.ll_sl]
  by_cases c3 : (((left - ((v.name.length : Nat) : Int)) - ((v.desc.length : Nat) : Int)) - ((DC.wt (.sl (v.args.map TInDef.enc)) : Nat) : Int)) < ((wtL (TType.enc v.type') : Nat) : Int)
  · rw [szR_lt c3]
    simp only [show (-1 : Int) < 0 by omega, decide_true, if_true]
    try rw [szR_lt (by omega)]
  rw [szR_ge c3]
  have c3' : ¬ (((left - ((v.name.length : Nat) : Int)) - ((v.desc.length : Nat) : Int)) - ((DC.wt (.sl (v.args.map TInDef.enc)) : Nat) : Int)) - ((wtL (TType.enc v.type') : Nat) : Int) < 0 := by omega
  simp only [c3', decide_false, Bool.false_eq_true, if_false]
  rw [szS_Dir v.dirs ok.2.2.2.2.2.1 (((((left - ((v.name.length : Nat) : Int)) - ((v.desc.length : Nat) : Int)) - ((DC.wt (.sl (v.args.map TInDef.enc)) : Nat) : Int)) - ((wtL (TType.enc v.type') : Nat) : Int))) (by omega) (by omega)]
  simp only [Out.bindR_ret, List.getD_cons_zero, List.getD_cons_succ, DC.bb_b, DC.ii_i, DC.ss_s, DC.ll_sl]
  by_cases c4 : ((((left - ((v.name.length : Nat) : Int)) - ((v.desc.length : Nat) : Int)) - ((DC.wt (.sl (v.args.map TInDef.enc)) : Nat) : Int)) - ((wtL (TType.enc v.type') : Nat) : Int)) < ((DC.wt (.sl (v.dirs.map TDir.enc)) : Nat) : Int)
  · rw [szR_lt c4]
    simp only [show (-1 : Int) < 0 by omega, decide_true, if_true]
    try rw [szR_lt (by omega)]
  rw [szR_ge c4]
  have c4' : ¬ ((((left - ((v.name.length : Nat) : Int)) - ((v.desc.length : Nat) : Int)) - ((DC.wt (.sl (v.args.map TInDef.enc)) : Nat) : Int)) - ((wtL (TType.enc v.type') : Nat) : Int)) - ((DC.wt (.sl (v.dirs.map TDir.enc)) : Nat) : Int) < 0 := by omega
  simp only [c4', decide_false, Bool.false_eq_true, if_false]
  first
  | done
  | rw [show szR left (v.name.length + v.desc.length + DC.wt (.sl (v.args.map TInDef.enc)) + wtL (TType.enc v.type') + DC.wt (.sl (v.dirs.map TDir.enc))) = (((((left - ((v.name.length : Nat) : Int)) - ((v.desc.length : Nat) : Int)) - ((DC.wt (.sl (v.args.map TInDef.enc)) : Nat) : Int)) - ((wtL (TType.enc v.type') : Nat) : Int)) - ((DC.wt (.sl (v.dirs.map TDir.enc)) : Nat) : Int)) from (szR_ge (by omega)).trans (by omega)]
theorem szS_FieldDef' (vs : List TFieldDef) (hs : ∀ v ∈ vs, okL (TFieldDef.enc v) → ∀ left : Int, 0 ≤ left → left ≤ 1048576 → r_laws_szFieldDef [.s v.name, .s v.desc, .sl (v.args.map TInDef.enc), .s v.type'.name, .s v.type'.wraps, .sl (v.dirs.map TDir.enc), .i left] = .ret [.i (szR left (wtL (TFieldDef.enc v)))]) (ok : (DC.sl (vs.map TFieldDef.enc)).ok) (left : Int) (h0 : 0 ≤ left) (h1 : left ≤ 1048576) : r_laws_szFieldDefS [.sl (vs.map TFieldDef.enc), .i left] = .ret [.i (szR left (DC.wt (.sl (vs.map TFieldDef.enc))))] := by
  rw [DC.ok, List.length_map] at ok
  obtain ⟨hl, ok⟩ := ok
  rw [eq_laws_szFieldDefS]
  simp only [E_laws_szFieldDefS, List.getD_cons_zero, List.getD_cons_succ, DC.bb_b, DC.ii_i, DC.ss_s, DC.ll_sl]
  refine szS_all hl (fun i hi left h0 h1 => ?_) (fun left => ?_) h0 h1
  · have key := hs vs[i] (List.getElem_mem hi) (okV_mem ok _ (List.mem_map_of_mem (List.getElem_mem hi))) left h0 h1
    generalize wtL (TFieldDef.enc vs[i]) = w at key ⊢
    have hc1 : (i : Int) < (vs.length : Int) := by omega
    simp only [E_laws_szFieldDefSL1, List.getD_cons_zero, List.getD_cons_succ, DC.bb_b, DC.ii_i, DC.ss_s, DC.ll_sl, Int.toNat_natCast, List.length_map, map_getD hi, TFieldDef.enc_eq, key, Out.bindR_ret]
    by_cases hc : left < (w : Int)
    · simp [hi, hc1, hc, szR_lt hc]
    · simp [hi, hc1, hc, szR_ge hc, show ¬ left - (w : Int) < 0 by omega, wrap_succ hi hl]
  · simp [E_laws_szFieldDefSL1]
theorem szS_FieldDef (vs : List TFieldDef) (ok : (DC.sl (vs.map TFieldDef.enc)).ok) (left : Int) (h0 : 0 ≤ left) (h1 : left ≤ 1048576) : r_laws_szFieldDefS [.sl (vs.map TFieldDef.enc), .i left] = .ret [.i (szR left (DC.wt (.sl (vs.map TFieldDef.enc))))] := szS_FieldDef' vs (fun v _ => sz_FieldDef v) ok left h0 h1
theorem to_FieldDef (v : TFieldDef) : wtL (TFieldDef.enc v) ≤ 1048576 → r_laws_toFieldDef [.s v.name, .s v.desc, .sl (v.args.map TInDef.enc), .s v.type'.name, .s v.type'.wraps, .sl (v.dirs.map TDir.enc)] = .ret (TFieldDef.enc v) := by
  intro hw
  rw [wsum_FieldDef] at hw
  rw [eq_laws_toFieldDef]
  simp only [E_laws_toFieldDef, List.getD_cons_zero, List.getD_cons_succ, DC.bb_b, DC.ii_i, DC.ss_s, DC.ll_sl]
  rw [toS_InDef v.args (by omega)]
  simp only [Out.bindR_ret, List.getD_cons_zero, List.getD_cons_succ, DC.bb_b, DC.ii_i, DC.ss_s, DC.ll_sl]
  rw [to_Type v.type' (by omega)]
  simp only [Out.bindR_ret, TType.enc_eq, List.getD_cons_zero, List.getD_cons_succ, DC.bb_b, DC.ii_i, DC.ss_s, DC.ll_sl]
  rw [toS_Dir v.dirs (by omega)]
  simp only [Out.bindR_ret, List.getD_cons_zero, List.getD_cons_succ, DC.bb_b, DC.ii_i, DC.ss_s, DC.ll_sl]
  rw [TFieldDef.enc_eq]
theorem toS_FieldDef' (vs : List TFieldDef) (hs : ∀ v ∈ vs, wtL (TFieldDef.enc v) ≤ 1048576 → r_laws_toFieldDef [.s v.name, .s v.desc, .sl (v.args.map TInDef.enc), .s v.type'.name, .s v.type'.wraps, .sl (v.dirs.map TDir.enc)] = .ret (TFieldDef.enc v)) (hw : DC.wt (.sl (vs.map TFieldDef.enc)) ≤ 1048576) : r_laws_toFieldDefS [.sl (vs.map TFieldDef.enc)] = .ret [.sl (vs.map TFieldDef.enc)] := by
  rw [DC.wt, List.length_map] at hw
  have hl : vs.length ≤ 1048576 := by omega
  rw [eq_laws_toFieldDefS]
  simp only [E_laws_toFieldDefS, List.getD_cons_zero, List.getD_cons_succ, DC.bb_b, DC.ii_i, DC.ss_s, DC.ll_sl]
  rw [if_pos ⟨by omega, by rw [List.length_map]; exact lim_of hl, trivial, by omega, by omega, rfl⟩, Int.toNat_natCast, List.length_map, show (0 : Int) = ((0 : Nat) : Int) from rfl, toS_loop hl (fun i hi cur h1 h2 => ?_) (fun cur => ?_)]
  · rfl
  · have key := hs vs[i] (List.getElem_mem hi) (by have := wtV_mem (List.mem_map_of_mem (f := TFieldDef.enc) (List.getElem_mem hi)); omega)
    have hc1 : (i : Int) < (vs.length : Int) := by omega
    simp only [E_laws_toFieldDefSL1, List.getD_cons_zero, List.getD_cons_succ, DC.bb_b, DC.ii_i, DC.ss_s, DC.ll_sl, Int.toNat_natCast, List.length_map, map_getD hi, h1, h2, TFieldDef.enc_eq] at key ⊢
    simp only [key, List.getD_cons_zero, List.getD_cons_succ, DC.bb_b, DC.ii_i, DC.ss_s, DC.ll_sl, Out.bindR_ret]
    simp [hi, hc1, wrap_succ hi (show vs.length ≤ 9223372036854775807 by omega), setRunD]
  · simp [E_laws_toFieldDefSL1]
theorem toS_FieldDef (vs : List TFieldDef) (hw : DC.wt (.sl (vs.map TFieldDef.enc)) ≤ 1048576) : r_laws_toFieldDefS [.sl (vs.map TFieldDef.enc)] = .ret [.sl (vs.map TFieldDef.enc)] := toS_FieldDef' vs (fun v _ => to_FieldDef v) hw
theorem eq_FieldDef (v : TFieldDef) : wtL (TFieldDef.enc v) ≤ 1048576 → r_laws_eqFieldDef [.s v.name, .s v.desc, .sl (v.args.map TInDef.enc), .s v.type'.name, .s v.type'.wraps, .sl (v.dirs.map TDir.enc), .s v.name, .s v.desc, .sl (v.args.map TInDef.enc), .s v.type'.name, .s v.type'.wraps, .sl (v.dirs.map TDir.enc)] = .ret [.b true] := by
  intro hw
  rw [wsum_FieldDef] at hw
  rw [eq_laws_eqFieldDef]
  simp only [E_laws_eqFieldDef, List.getD_cons_zero, List.getD_cons_succ, DC.bb_b, DC.ii_i, DC.ss_s, DC.ll_sl, bne_self_eq_false, beq_self_eq_true, Bool.not_true, Bool.false_eq_true, if_false]
  rw [eqS_InDef v.args (by omega)]
  simp only [Out.bindR_ret, List.getD_cons_zero, List.getD_cons_succ, DC.bb_b, DC.ii_i, DC.ss_s, DC.ll_sl, bne_self_eq_false, beq_self_eq_true, Bool.not_true, Bool.false_eq_true, if_false]
  rw [eq_Type v.type' (by omega)]
  simp only [Out.bindR_ret, List.getD_cons_zero, List.getD_cons_succ, DC.bb_b, DC.ii_i, DC.ss_s, DC.ll_sl, bne_self_eq_false, beq_self_eq_true, Bool.not_true, Bool.false_eq_true, if_false]
  rw [eqS_Dir v.dirs (by omega)]
  simp only [Out.bindR_ret, List.getD_cons_zero, List.getD_cons_succ, DC.bb_b, DC.ii_i, DC.ss_s, DC.ll_sl, bne_self_eq_false, beq_self_eq_true, Bool.not_true, Bool.false_eq_true, if_false]
theorem eqS_FieldDef' (vs : List TFieldDef) (hs : ∀ v ∈ vs, wtL (TFieldDef.enc v) ≤ 1048576 → r_laws_eqFieldDef [.s v.name, .s v.desc, .sl (v.args.map TInDef.enc), .s v.type'.name, .s v.type'.wraps, .sl (v.dirs.map TDir.enc), .s v.name, .s v.desc, .sl (v.args.map TInDef.enc), .s v.type'.name, .s v.type'.wraps, .sl (v.dirs.map TDir.enc)] = .ret [.b true]) (hw : DC.wt (.sl (vs.map TFieldDef.enc)) ≤ 1048576) : r_laws_eqFieldDefS [.sl (vs.map TFieldDef.enc), .sl (vs.map TFieldDef.enc)] = .ret [.b true] := by
  rw [DC.wt, List.length_map] at hw
  have hl : vs.length ≤ 1048576 := by omega
  rw [eq_laws_eqFieldDefS]
  simp only [E_laws_eqFieldDefS, List.getD_cons_zero, List.getD_cons_succ, DC.bb_b, DC.ii_i, DC.ss_s, DC.ll_sl]
  refine eqS_all (fun i hi => ?_) ?_
  · rw [List.length_map] at hi
    have key := hs vs[i] (List.getElem_mem hi) (by have := wtV_mem (List.mem_map_of_mem (f := TFieldDef.enc) (List.getElem_mem hi)); omega)
    have hc1 : (i : Int) < (vs.length : Int) := by omega
    simp only [E_laws_eqFieldDefSL1, List.getD_cons_zero, List.getD_cons_succ, DC.bb_b, DC.ii_i, DC.ss_s, DC.ll_sl, Int.toNat_natCast, List.length_map, map_getD hi, TFieldDef.enc_eq] at key ⊢
    simp only [key, List.getD_cons_zero, List.getD_cons_succ, DC.bb_b, DC.ii_i, DC.ss_s, DC.ll_sl, Out.bindR_ret]
    simp [hi, hc1, wrap_succ hi (show vs.length ≤ 9223372036854775807 by omega)]
  · simp [E_laws_eqFieldDefSL1]
theorem eqS_FieldDef (vs : List TFieldDef) (hw : DC.wt (.sl (vs.map TFieldDef.enc)) ≤ 1048576) : r_laws_eqFieldDefS [.sl (vs.map TFieldDef.enc), .sl (vs.map TFieldDef.enc)] = .ret [.b true] := eqS_FieldDef' vs (fun v _ => eq_FieldDef v) hw
theorem wsum_EnumDef (v : TEnumDef) : wtL (TEnumDef.enc v) = v.name.length + v.desc.length + DC.wt (.sl (v.dirs.map TDir.enc)) := by
  simp only [TEnumDef.enc_eq, wtL, DC.wt]
  try omega
theorem sz_EnumDef (v : TEnumDef) : okL (TEnumDef.enc v) → ∀ left : Int, 0 ≤ left → left ≤ 1048576 → r_laws_szEnumDef [.s v.name, .s v.desc, .sl (v.dirs.map TDir.enc), .i left] = .ret [.i (szR left (wtL (TEnumDef.enc v)))] := by
  intro ok left h0 h1
  rw [TEnumDef.enc_eq] at ok
  simp only [okL] at ok
  rw [eq_laws_szEnumDef]
  simp only [E_laws_szEnumDef, List.getD_cons_zero, List.getD_cons_succ, DC.bb_b, DC.ii_i, DC.ss_s, DC.ll_sl]
  rw [wsum_EnumDef]
  have b0 : v.name.length ≤ 9223372036854775807 := by simpa only [DC.ok] using ok.1
  have b1 : v.desc.length ≤ 9223372036854775807 := by simpa only [DC.ok] using ok.2.1
  rw [show IntKind.i64.wrap (left - (v.name.length : Int)) = left - (v.name.length : Int) from wrap64 (by omega) (by omega)]
  by_cases c0 : left < ((v.name.length : Nat) : Int)
  · have c0' : left - ((v.name.length : Nat) : Int) < 0 := by omega
    simp only [c0', decide_true, if_true]
    try rw [szR_lt (by omega)]
  have c0' : ¬ left - ((v.name.length : Nat) : Int) < 0 := by omega
  simp only [c0', decide_false, Bool.false_eq_true, if_false]
  rw [show IntKind.i64.wrap ((left - ((v.name.length : Nat) : Int)) - (v.desc.length : Int)) = (left - ((v.name.length : Nat) : Int)) - (v.desc.length : Int) from wrap64 (by omega) (by omega)]
  by_cases c1 : (left - ((v.name.length : Nat) : Int)) < ((v.desc.length : Nat) : Int)
  · have c1' : (left - ((v.name.length : Nat) : Int)) - ((v.desc.length : Nat) : Int) < 0 := by omega
    simp only [c1', decide_true, if_true]
    try rw [szR_lt (by omega)]
  have c1' : ¬ (left - ((v.name.length : Nat) : Int)) - ((v.desc.length : Nat) : Int) < 0 := by omega
  simp only [c1', decide_false, Bool.false_eq_true, if_false]
  rw [szS_Dir v.dirs ok.2.2.1 (((left - ((v.name.length : Nat) : Int)) - ((v.desc.length : Nat) : Int))) (by omega) (by omega)]
  simp only [Out.bindR_ret, List.getD_cons_zero, List.getD_cons_succ, DC.bb_b, DC.ii_i, DC.ss_s, DC.ll_sl]
  by_cases c2 : ((left - ((v.name.length : Nat) : Int)) - ((v.desc.length : Nat) : Int)) < ((DC.wt (.sl (v.dirs.map TDir.enc)) : Nat) : Int)
  · rw [szR_lt c2]
    simp only [show (-1 : Int) < 0 by omega, decide_true, if_true]
    try rw [szR_lt (by omega)]
  rw [szR_ge c2]
  have c2' : ¬ ((left - ((v.name.length : Nat) : Int)) - ((v.desc.length : Nat) : Int)) - ((DC.wt (.sl (v.dirs.map TDir.enc)) : Nat) : Int) < 0 := by omega
  simp only [c2', decide_false, Bool.false_eq_true, if_false]
  first
  | done
  | rw [show szR left (v.name.length + v.desc.length + DC.wt (.sl (v.dirs.map TDir.enc))) = (((left - ((v.name.length : Nat) : Int)) - ((v.desc.length : Nat) : Int)) - ((DC.wt (.sl (v.dirs.map TDir.enc)) : Nat) : Int)) from (szR_ge (by omega)).trans (by omega)]
theorem szS_EnumDef' (vs : List TEnumDef) (hs : ∀ v ∈ vs, okL (TEnumDef.enc v) → ∀ left : Int, 0 ≤ left → left ≤ 1048576 → r_laws_szEnumDef [.s v.name, .s v.desc, .sl (v.dirs.map TDir.enc), .i left] = .ret [.i (szR left (wtL (TEnumDef.enc v)))]) (ok : (DC.sl (vs.map TEnumDef.enc)).ok) (left : Int) (h0 : 0 ≤ left) (h1 : left ≤ 1048576) : r_laws_szEnumDefS [.sl (vs.map TEnumDef.enc), .i left] = .ret [.i (szR left (DC.wt (.sl (vs.map TEnumDef.enc))))] := by
  rw [DC.ok, List.length_map] at ok
  obtain ⟨hl, ok⟩ := ok
  rw [eq_laws_szEnumDefS]
  simp only [E_laws_szEnumDefS, List.getD_cons_zero, List.getD_cons_succ, DC.bb_b, DC.ii_i, DC.ss_s, DC.ll_sl]
  refine szS_all hl (fun i hi left h0 h1 => ?_) (fun left => ?_) h0 h1
  · have key := hs vs[i] (List.getElem_mem hi) (okV_mem ok _ (List.mem_map_of_mem (List.getElem_mem hi))) left h0 h1
    generalize wtL (TEnumDef.enc vs[i]) = w at key ⊢
    have hc1 : (i : Int) < (vs.length : Int) := by omega
    simp only [E_laws_szEnumDefSL1, List.getD_cons_zero, List.getD_cons_succ, DC.bb_b, DC.ii_i, DC.ss_s, DC.ll_sl, Int.toNat_natCast, List.length_map, map_getD hi, TEnumDef.enc_eq, key, Out.bindR_ret]
    by_cases hc : left < (w : Int)
    · simp [hi, hc1, hc, szR_lt hc]
    · simp [hi, hc1, hc, szR_ge hc, show ¬ left - (w : Int) < 0 by omega, wrap_succ hi hl]
  · simp [E_laws_szEnumDefSL1]
theorem szS_EnumDef (vs : List TEnumDef) (ok : (DC.sl (vs.map TEnumDef.enc)).ok) (left : Int) (h0 : 0 ≤ left) (h1 : left ≤ 1048576) : r_laws_szEnumDefS [.sl (vs.map TEnumDef.enc), .i left] = .ret [.i (szR left (DC.wt (.sl (vs.map TEnumDef.enc))))] := szS_EnumDef' vs (fun v _ => sz_EnumDef v) ok left h0 h1
theorem to_EnumDef (v : TEnumDef) : wtL (TEnumDef.enc v) ≤ 1048576 → r_laws_toEnumDef [.s v.name, .s v.desc, .sl (v.dirs.map TDir.enc)] = .ret (TEnumDef.enc v) := by
  intro hw
  rw [wsum_EnumDef] at hw
  rw [eq_laws_toEnumDef]
  simp only [E_laws_toEnumDef, List.getD_cons_zero, List.getD_cons_succ, DC.bb_b, DC.ii_i, DC.ss_s, DC.ll_sl]
  rw [toS_Dir v.dirs (by omega)]
  simp only [Out.bindR_ret, List.getD_cons_zero, List.getD_cons_succ, DC.bb_b, DC.ii_i, DC.ss_s, DC.ll_sl]
  rw [TEnumDef.enc_eq]
theorem toS_EnumDef' (vs : List TEnumDef) (hs : ∀ v ∈ vs, wtL (TEnumDef.enc v) ≤ 1048576 → r_laws_toEnumDef [.s v.name, .s v.desc, .sl (v.dirs.map TDir.enc)] = .ret (TEnumDef.enc v)) (hw : DC.wt (.sl (vs.map TEnumDef.enc)) ≤ 1048576) : r_laws_toEnumDefS [.sl (vs.map TEnumDef.enc)] = .ret [.sl (vs.map TEnumDef.enc)] := by
  rw [DC.wt, List.length_map] at hw
  have hl : vs.length ≤ 1048576 := by omega
  rw [eq_laws_toEnumDefS]
  simp only [E_laws_toEnumDefS, List.getD_cons_zero, List.getD_cons_succ, DC.bb_b, DC.ii_i, DC.ss_s, DC.ll_sl]
  rw [if_pos ⟨by omega, by rw [List.length_map]; exact lim_of hl, trivial, by omega, by omega, rfl⟩, Int.toNat_natCast, List.length_map, show (0 : Int) = ((0 : Nat) : Int) from rfl, toS_loop hl (fun i hi cur h1 h2 => ?_) (fun cur => ?_)]
  · rfl
  · have key := hs vs[i] (List.getElem_mem hi) (by have := wtV_mem (List.mem_map_of_mem (f := TEnumDef.enc) (List.getElem_mem hi)); omega)
    have hc1 : (i : Int) < (vs.length : Int) := by omega
    simp only [E_laws_toEnumDefSL1, List.getD_cons_zero, List.getD_cons_succ, DC.bb_b, DC.ii_i, DC.ss_s, DC.ll_sl, Int.toNat_natCast, List.length_map, map_getD hi, h1, h2, TEnumDef.enc_eq] at key ⊢
    simp only [key, List.getD_cons_zero, List.getD_cons_succ, DC.bb_b, DC.ii_i, DC.ss_s, DC.ll_sl, Out.bindR_ret]
    simp [hi, hc1, wrap_succ hi (show vs.length ≤ 9223372036854775807 by omega), setRunD]
  · simp [E_laws_toEnumDefSL1]
theorem toS_EnumDef (vs : List TEnumDef) (hw : DC.wt (.sl (vs.map TEnumDef.enc)) ≤ 1048576) : r_laws_toEnumDefS [.sl (vs.map TEnumDef.enc)] = .ret [.sl (vs.map TEnumDef.enc)] := toS_EnumDef' vs (fun v _ => to_EnumDef v) hw
theorem eq_EnumDef (v : TEnumDef) : wtL (TEnumDef.enc v) ≤ 1048576 → r_laws_eqEnumDef [.s v.name, .s v.desc, .sl (v.dirs.map TDir.enc), .s v.name, .s v.desc, .sl (v.dirs.map TDir.enc)] = .ret [.b true] := by
  intro hw
  rw [wsum_EnumDef] at hw
  rw [eq_laws_eqEnumDef]
  simp only [E_laws_eqEnumDef, List.getD_cons_zero, List.getD_cons_succ, DC.bb_b, DC.ii_i, DC.ss_s, DC.ll_sl, bne_self_eq_false, beq_self_eq_true, Bool.not_true, Bool.false_eq_true, if_false]
  rw [eqS_Dir v.dirs (by omega)]
  simp only [Out.bindR_ret, List.getD_cons_zero, List.getD_cons_succ, DC.bb_b, DC.ii_i, DC.ss_s, DC.ll_sl, bne_self_eq_false, beq_self_eq_true, Bool.not_true, Bool.false_eq_true, if_false]
theorem eqS_EnumDef' (vs : List TEnumDef) (hs : ∀ v ∈ vs, wtL (TEnumDef.enc v) ≤ 1048576 → r_laws_eqEnumDef [.s v.name, .s v.desc, .sl (v.dirs.map TDir.enc), .s v.name, .s v.desc, .sl (v.dirs.map TDir.enc)] = .ret [.b true]) (hw : DC.wt (.sl (vs.map TEnumDef.enc)) ≤ 1048576) : r_laws_eqEnumDefS [.sl (vs.map TEnumDef.enc), .sl (vs.map TEnumDef.enc)] = .ret [.b true] := by
  rw [DC.wt, List.length_map] at hw
  have hl : vs.length ≤ 1048576 := by omega
  rw [eq_laws_eqEnumDefS]
  simp only [E_laws_eqEnumDefS, List.getD_cons_zero, List.getD_cons_succ, DC.bb_b, DC.ii_i, DC.ss_s, DC.ll_sl]
  refine eqS_all (fun i hi => ?_) ?_
  · rw [List.length_map] at hi
    have key := hs vs[i] (List.getElem_mem hi) (by have := wtV_mem (List.mem_map_of_mem (f := TEnumDef.enc) (List.getElem_mem hi)); omega)
    have hc1 : (i : Int) < (vs.length : Int) := by omega
    simp only [E_laws_eqEnumDefSL1, List.getD_cons_zero, List.getD_cons_succ, DC.bb_b, DC.ii_i, DC.ss_s, DC.ll_sl, Int.toNat_natCast, List.length_map, map_getD hi, TEnumDef.enc_eq] at key ⊢
    simp only [key, List.getD_cons_zero, List.getD_cons_succ, DC.bb_b, DC.ii_i, DC.ss_s, DC.ll_sl, Out.bindR_ret]
    simp [hi, hc1, wrap_succ hi (show vs.length ≤ 9223372036854775807 by omega)]
  · simp [E_laws_eqEnumDefSL1]
theorem eqS_EnumDef (vs : List TEnumDef) (hw : DC.wt (.sl (vs.map TEnumDef.enc)) ≤ 1048576) : r_laws_eqEnumDefS [.sl (vs.map TEnumDef.enc), .sl (vs.map TEnumDef.enc)] = .ret [.b true] := eqS_EnumDef' vs (fun v _ => eq_EnumDef v) hw
theorem wsum_Root (v : TRoot) : wtL (TRoot.enc v) = v.type'.length := by
  simp only [TRoot.enc_eq, wtL, DC.wt]
  try omega
theorem sz_Root (v : TRoot) : okL (TRoot.enc v) → ∀ left : Int, 0 ≤ left → left ≤ 1048576 → r_laws_szRoot [.i v.kind, .s v.type', .i left] = .ret [.i (szR left (wtL (TRoot.enc v)))] := by
  intro ok left h0 h1
  rw [TRoot.enc_eq] at ok
  simp only [okL] at ok
  rw [eq_laws_szRoot]
  simp only [E_laws_szRoot, List.getD_cons_zero, List.getD_cons_succ, DC.bb_b, DC.ii_i, DC.ss_s, DC.ll_sl]
  rw [wsum_Root]
  have b0 : v.type'.length ≤ 9223372036854775807 := by simpa only [DC.ok] using ok.2.1
  rw [show IntKind.i64.wrap (left - (v.type'.length : Int)) = left - (v.type'.length : Int) from wrap64 (by omega) (by omega)]
  by_cases c0 : left < ((v.type'.length : Nat) : Int)
  · have c0' : left - ((v.type'.length : Nat) : Int) < 0 := by omega
    simp only [c0', decide_true, if_true]
    try rw [szR_lt (by omega)]
  have c0' : ¬ left - ((v.type'.length : Nat) : Int) < 0 := by omega
  simp only [c0', decide_false, Bool.false_eq_true, if_false]
  first
  | done
  | rw [show szR left (v.type'.length) = (left - ((v.type'.length : Nat) : Int)) from (szR_ge (by omega)).trans (by omega)]
theorem szS_Root' (vs : List TRoot) (hs : ∀ v ∈ vs, okL (TRoot.enc v) → ∀ left : Int, 0 ≤ left → left ≤ 1048576 → r_laws_szRoot [.i v.kind, .s v.type', .i left] = .ret [.i (szR left (wtL (TRoot.enc v)))]) (ok : (DC.sl (vs.map TRoot.enc)).ok) (left : Int) (h0 : 0 ≤ left) (h1 : left ≤ 1048576) : r_laws_szRootS [.sl (vs.map TRoot.enc), .i left] = .ret [.i (szR left (DC.wt (.sl (vs.map TRoot.enc))))] := by
  rw [DC.ok, List.length_map] at ok
  obtain ⟨hl, ok⟩ := ok
  rw [eq_laws_szRootS]
  simp only [E_laws_szRootS, List.getD_cons_zero, List.getD_cons_succ, DC.bb_b, DC.ii_i, DC.ss_s, DC.ll_sl]
  refine szS_all hl (fun i hi left h0 h1 => ?_) (fun left => ?_) h0 h1
  · have key := hs vs[i] (List.getElem_mem hi) (okV_mem ok _ (List.mem_map_of_mem (List.getElem_mem hi))) left h0 h1
    generalize wtL (TRoot.enc vs[i]) = w at key ⊢
    have hc1 : (i : Int) < (vs.length : Int) := by omega
    simp only [E_laws_szRootSL1, List.getD_cons_zero, List.getD_cons_succ, DC.bb_b, DC.ii_i, DC.ss_s, DC.ll_sl, Int.toNat_natCast, List.length_map, map_getD hi, TRoot.enc_eq, key, Out.bindR_ret]
    by_cases hc : left < (w : Int)
    · simp [hi, hc1, hc, szR_lt hc]
    · simp [hi, hc1, hc, szR_ge hc, show ¬ left - (w : Int) < 0 by omega, wrap_succ hi hl]
  · simp [E_laws_szRootSL1]
theorem szS_Root (vs : List TRoot) (ok : (DC.sl (vs.map TRoot.enc)).ok) (left : Int) (h0 : 0 ≤ left) (h1 : left ≤ 1048576) : r_laws_szRootS [.sl (vs.map TRoot.enc), .i left] = .ret [.i (szR left (DC.wt (.sl (vs.map TRoot.enc))))] := szS_Root' vs (fun v _ => sz_Root v) ok left h0 h1
theorem to_Root (v : TRoot) : wtL (TRoot.enc v) ≤ 1048576 → r_laws_toRoot [.i v.kind, .s v.type'] = .ret (TRoot.enc v) := by
  intro hw
  rw [wsum_Root] at hw
  rw [eq_laws_toRoot]
  simp only [E_laws_toRoot, List.getD_cons_zero, List.getD_cons_succ, DC.bb_b, DC.ii_i, DC.ss_s, DC.ll_sl]
  rw [TRoot.enc_eq]
theorem toS_Root' (vs : List TRoot) (hs : ∀ v ∈ vs, wtL (TRoot.enc v) ≤ 1048576 → r_laws_toRoot [.i v.kind, .s v.type'] = .ret (TRoot.enc v)) (hw : DC.wt (.sl (vs.map TRoot.enc)) ≤ 1048576) : r_laws_toRootS [.sl (vs.map TRoot.enc)] = .ret [.sl (vs.map TRoot.enc)] := by
  rw [DC.wt, List.length_map] at hw
  have hl : vs.length ≤ 1048576 := by omega
  rw [eq_laws_toRootS]
  simp only [E_laws_toRootS, List.getD_cons_zero, List.getD_cons_succ, DC.bb_b, DC.ii_i, DC.ss_s, DC.ll_sl]
  rw [if_pos ⟨by omega, by rw [List.length_map]; exact lim_of hl, trivial, by omega, by omega, rfl⟩, Int.toNat_natCast, List.length_map, show (0 : Int) = ((0 : Nat) : Int) from rfl, toS_loop hl (fun i hi cur h1 h2 => ?_) (fun cur => ?_)]
  · rfl
  · have key := hs vs[i] (List.getElem_mem hi) (by have := wtV_mem (List.mem_map_of_mem (f := TRoot.enc) (List.getElem_mem hi)); omega)
    have hc1 : (i : Int) < (vs.length : Int) := by omega
    simp only [E_laws_toRootSL1, List.getD_cons_zero, List.getD_cons_succ, DC.bb_b, DC.ii_i, DC.ss_s, DC.ll_sl, Int.toNat_natCast, List.length_map, map_getD hi, h1, h2, TRoot.enc_eq] at key ⊢
    simp only [key, List.getD_cons_zero, List.getD_cons_succ, DC.bb_b, DC.ii_i, DC.ss_s, DC.ll_sl, Out.bindR_ret]
    simp [hi, hc1, wrap_succ hi (show vs.length ≤ 9223372036854775807 by omega), setRunD]
  · simp [E_laws_toRootSL1]
theorem toS_Root (vs : List TRoot) (hw : DC.wt (.sl (vs.map TRoot.enc)) ≤ 1048576) : r_laws_toRootS [.sl (vs.map TRoot.enc)] = .ret [.sl (vs.map TRoot.enc)] := toS_Root' vs (fun v _ => to_Root v) hw
theorem eq_Root (v : TRoot) : wtL (TRoot.enc v) ≤ 1048576 → r_laws_eqRoot [.i v.kind, .s v.type', .i v.kind, .s v.type'] = .ret [.b true] := by
  intro hw
  rw [wsum_Root] at hw
  rw [eq_laws_eqRoot]
  simp only [E_laws_eqRoot, List.getD_cons_zero, List.getD_cons_succ, DC.bb_b, DC.ii_i, DC.ss_s, DC.ll_sl, bne_self_eq_false, beq_self_eq_true, Bool.not_true, Bool.false_eq_true, if_false]
theorem eqS_Root' (vs : List TRoot) (hs : ∀ v ∈ vs, wtL (TRoot.enc v) ≤ 1048576 → r_laws_eqRoot [.i v.kind, .s v.type', .i v.kind, .s v.type'] = .ret [.b true]) (hw : DC.wt (.sl (vs.map TRoot.enc)) ≤ 1048576) : r_laws_eqRootS [.sl (vs.map TRoot.enc), .sl (vs.map TRoot.enc)] = .ret [.b true] := by
  rw [DC.wt, List.length_map] at hw
  have hl : vs.length ≤ 1048576 := by omega
  rw [eq_laws_eqRootS]
  simp only [E_laws_eqRootS, List.getD_cons_zero, List.getD_cons_succ, DC.bb_b, DC.ii_i, DC.ss_s, DC.ll_sl]
  refine eqS_all (fun i hi => ?_) ?_
  · rw [List.length_map] at hi
    have key := hs vs[i] (List.getElem_mem hi) (by have := wtV_mem (List.mem_map_of_mem (f := TRoot.enc) (List.getElem_mem hi)); omega)
    have hc1 : (i : Int) < (vs.length : Int) := by omega
    simp only [E_laws_eqRootSL1, List.getD_cons_zero, List.getD_cons_succ, DC.bb_b, DC.ii_i, DC.ss_s, DC.ll_sl, Int.toNat_natCast, List.length_map, map_getD hi, TRoot.enc_eq] at key ⊢
    simp only [key, List.getD_cons_zero, List.getD_cons_succ, DC.bb_b, DC.ii_i, DC.ss_s, DC.ll_sl, Out.bindR_ret]
    simp [hi, hc1, wrap_succ hi (show vs.length ≤ 9223372036854775807 by omega)]
  · simp [E_laws_eqRootSL1]
theorem eqS_Root (vs : List TRoot) (hw : DC.wt (.sl (vs.map TRoot.enc)) ≤ 1048576) : r_laws_eqRootS [.sl (vs.map TRoot.enc), .sl (vs.map TRoot.enc)] = .ret [.b true] := eqS_Root' vs (fun v _ => eq_Root v) hw
theorem wsum_Def (v : TDef) : wtL (TDef.enc v) = v.desc.length + v.name.length + DC.wt (.sl (v.faces.map S1)) + DC.wt (.sl (v.fields.map TFieldDef.enc)) + DC.wt (.sl (v.inputs.map TInDef.enc)) + DC.wt (.sl (v.values.map TEnumDef.enc)) + DC.wt (.sl (v.roots.map TRoot.enc)) + DC.wt (.sl (v.dirs.map TDir.enc)) := by
  simp only [TDef.enc_eq, wtL, DC.wt]
  try omega
theorem sz_Def (v : TDef) : okL (TDef.enc v) → ∀ left : Int, 0 ≤ left → left ≤ 1048576 → r_laws_szDef [.i v.kind, .b v.ext, .s v.desc, .s v.name, .sl (v.faces.map S1), .sl (v.fields.map TFieldDef.enc), .sl (v.inputs.map TInDef.enc), .sl (v.values.map TEnumDef.enc), .sl (v.roots.map TRoot.enc), .b v.repeat', .sl (v.dirs.map TDir.enc), .i left] = .ret [.i (szR left (wtL (TDef.enc v)))] := by
  intro ok left h0 h1
  rw [TDef.enc_eq] at ok
  simp only [okL] at ok
  rw [eq_laws_szDef]
  simp only [E_laws_szDef, List.getD_cons_zero, List.getD_cons_succ, DC.bb_b, DC.ii_i, DC.ss_s, DC.ll_sl]
  rw [wsum_Def]
  have b0 : v.desc.length ≤ 9223372036854775807 := by simpa only [DC.ok] using ok.2.2.1
  have b1 : v.name.length ≤ 9223372036854775807 := by simpa only [DC.ok] using ok.2.2.2.1
  rw [show IntKind.i64.wrap (left - (v.desc.length : Int)) = left - (v.desc.length : Int) from wrap64 (by omega) (by omega)]
  by_cases c0 : left < ((v.desc.length : Nat) : Int)
  · have c0' : left - ((v.desc.length : Nat) : Int) < 0 := by omega
    simp only [c0', decide_true, if_true]
    try rw [szR_lt (by omega)]
  have c0' : ¬ left - ((v.desc.length : Nat) : Int) < 0 := by omega
  simp only [c0', decide_false, Bool.false_eq_true, if_false]
  rw [show IntKind.i64.wrap ((left - ((v.desc.length : Nat) : Int)) - (v.name.length : Int)) = (left - ((v.desc.length : Nat) : Int)) - (v.name.length : Int) from wrap64 (by omega) (by omega)]
  by_cases c1 : (left - ((v.desc.length : Nat) : Int)) < ((v.name.length : Nat) : Int)
  · have c1' : (left - ((v.desc.length : Nat) : Int)) - ((v.name.length : Nat) : Int) < 0 := by omega
    simp only [c1', decide_true, if_true]
    try rw [szR_lt (by omega)]
  have c1' : ¬ (left - ((v.desc.length : Nat) : Int)) - ((v.name.length : Nat) : Int) < 0 := by omega
  simp only [c1', decide_false, Bool.false_eq_true, if_false]
  rw [szS_String v.faces ok.2.2.2.2.1 (((left - ((v.desc.length : Nat) : Int)) - ((v.name.length : Nat) : Int))) (by omega) (by omega)]
  simp only [Out.bindR_ret, List.getD_cons_zero, List.getD_cons_succ, DC.bb_b, DC.ii_i, DC.ss_s, DC.ll_sl]
  by_cases c2 : ((left - ((v.desc.length : Nat) : Int)) - ((v.name.length : Nat) : Int)) < ((DC.wt (.sl (v.faces.map S1)) : Nat) : Int)
  · rw [szR_lt c2]
    simp only [show (-1 : Int) < 0 by omega, decide_true, if_true]
    try rw [szR_lt (by omega)]
  rw [szR_ge c2]
  have c2' : ¬ ((left - ((v.desc.length : Nat) : Int)) - ((v.name.length : Nat) : Int)) - ((DC.wt (.sl (v.faces.map S1)) : Nat) : Int) < 0 := by omega
  simp only [c2', decide_false, Bool.false_eq_true, if_false]
  rw [szS_FieldDef v.fields ok.2.2.2.2.2.1 ((((left - ((v.desc.length : Nat) : Int)) - ((v.name.length : Nat) : Int)) - ((DC.wt (.sl (v.faces.map S1)) : Nat) : Int))) (by omega) (by omega)]
  simp only [Out.bindR_ret, List.getD_cons_zero, List.getD_cons_succ, DC.bb_b, DC.ii_i, DC.ss_s, DC.ll_sl]
  by_cases c3 : (((left - ((v.desc.length : Nat) : Int)) - ((v.name.length : Nat) : Int)) - ((DC.wt (.sl (v.faces.map S1)) : Nat) : Int)) < ((DC.wt (.sl (v.fields.map TFieldDef.enc)) : Nat) : Int)
  · rw [szR_lt c3]
    simp only [show (-1 : Int) < 0 by omega, decide_true, if_true]
    try rw [szR_lt (by omega)]
  rw [szR_ge c3]
  have c3' : ¬ (((left - ((v.desc.length : Nat) : Int)) - ((v.name.length : Nat) : Int)) - ((DC.wt (.sl (v.faces.map S1)) : Nat) : Int)) - ((DC.wt (.sl (v.fields.map TFieldDef.enc)) : Nat) : Int) < 0 := by omega
  simp only [c3', decide_false, Bool.false_eq_true, if_false]
  rw [szS_InDef v.inputs ok.2.2.2.2.2.2.1 (((((left - ((v.desc.length : Nat) : Int)) - ((v.name.length : Nat) : Int)) - ((DC.wt (.sl (v.faces.map S1)) : Nat) : Int)) - ((DC.wt (.sl (v.fields.map TFieldDef.enc)) : Nat) : Int))) (by omega) (by omega)]
  simp only [Out.bindR_ret, List.getD_cons_zero, List.getD_cons_succ, DC.bb_b, DC.ii_i, DC.ss_s, DC.ll_sl]
  by_cases c4 : ((((left - ((v.desc.length : Nat) : Int)) - ((v.name.length : Nat) : Int)) - ((DC.wt (.sl (v.faces.map S1)) : Nat) : Int)) - ((DC.wt (.sl (v.fields.map TFieldDef.enc)) : Nat) : Int)) < ((DC.wt (.sl (v.inputs.map TInDef.enc)) : Nat) : Int)
  · rw [szR_lt c4]
    simp only [show (-1 : Int) < 0 by omega, decide_true, if_true]
    try rw [szR_lt (by omega)]
  rw [szR_ge c4]
  have c4' : ¬ ((((left - ((v.desc.length : Nat) : Int)) - ((v.name.length : Nat) : Int)) - ((DC.wt (.sl (v.faces.map S1)) : Nat) : Int)) - ((DC.wt (.sl (v.fields.map TFieldDef.enc)) : Nat) : Int)) - ((DC.wt (.sl (v.inputs.map TInDef.enc)) : Nat) : Int) < 0 := by omega
  simp only [c4', decide_false, Bool.false_eq_true, if_false]
  rw [szS_EnumDef v.values ok.2.2.2.2.2.2.2.1 ((((((left - ((v.desc.length : Nat) : Int)) - ((v.name.length : Nat) : Int)) - ((DC.wt (.sl (v.faces.map S1)) : Nat) : Int)) - ((DC.wt (.sl (v.fields.map TFieldDef.enc)) : Nat) : Int)) - ((DC.wt (.sl (v.inputs.map TInDef.enc)) : Nat) : Int))) (by omega) (by omega)]
  simp only [Out.bindR_ret, List.getD_cons_zero, List.getD_cons_succ, DC.bb_b, DC.ii_i, DC.ss_s, DC.ll_sl]
  by_cases c5 : (((((left - ((v.desc.length : Nat) : Int)) - ((v.name.length : Nat) : Int)) - ((DC.wt (.sl (v.faces.map S1)) : Nat) : Int)) - ((DC.wt (.sl (v.fields.map TFieldDef.enc)) : Nat) : Int)) - ((DC.wt (.sl (v.inputs.map TInDef.enc)) : Nat) : Int)) < ((DC.wt (.sl (v.values.map TEnumDef.enc)) : Nat) : Int)
  · rw [szR_lt c5]
    simp only [show (-1 : Int) < 0 by omega, decide_true, if_true]
    try rw [szR_lt (by omega)]
  rw [szR_ge c5]
  have c5' : ¬ (((((left - ((v.desc.length : Nat) : Int)) - ((v.name.length : Nat) : Int)) - ((DC.wt (.sl (v.faces.map S1)) : Nat) : Int)) - ((DC.wt (.sl (v.fields.map TFieldDef.enc)) : Nat) : Int)) - ((DC.wt (.sl (v.inputs.map TInDef.enc)) : Nat) : Int)) - ((DC.wt (.sl (v.values.map TEnumDef.enc)) : Nat) : Int) < 0 := by omega
  simp only [c5', decide_false, Bool.false_eq_true, if_false]
  rw [szS_Root v.roots ok.2.2.2.2.2.2.2.2.1 (((((((left - ((v.desc.length : Nat) : Int)) - ((v.name.length : Nat) : Int)) - ((DC.wt (.sl (v.faces.map S1)) : Nat) : Int)) - ((DC.wt (.sl (v.fields.map TFieldDef.enc)) : Nat) : Int)) - ((DC.wt (.sl (v.inputs.map TInDef.enc)) : Nat) : Int)) - ((DC.wt (.sl (v.values.map TEnumDef.enc)) : Nat) : Int))) (by omega) (by omega)]
  simp only [Out.bindR_ret, List.getD_cons_zero, List.getD_cons_succ, DC.bb_b, DC.ii_i, DC.ss_s, DC.ll_sl]
  by_cases c6 : ((((((left - ((v.desc.length : Nat) : Int)) - ((v.name.length : Nat) : Int)) - ((DC.wt (.sl (v.faces.map S1)) : Nat) : Int)) - ((DC.wt (.sl (v.fields.map TFieldDef.enc)) : Nat) : Int)) - ((DC.wt (.sl (v.inputs.map TInDef.enc)) : Nat) : Int)) - ((DC.wt (.sl (v.values.map TEnumDef.enc)) : Nat) : Int)) < ((DC.wt (.sl (v.roots.map TRoot.enc)) : Nat) : Int)
  · rw [szR_lt c6]
    simp only [show (-1 : Int) < 0 by omega, decide_true, if_true]
    try rw [szR_lt (by omega)]
  rw [szR_ge c6]
  have c6' : ¬ ((((((left - ((v.desc.length : Nat) : Int)) - ((v.name.length : Nat) : Int)) - ((DC.wt (.sl (v.faces.map S1)) : Nat) : Int)) - ((DC.wt (.sl (v.fields.map TFieldDef.enc)) : Nat) : Int)) - ((DC.wt (.sl (v.inputs.map TInDef.enc)) : Nat) : Int)) - ((DC.wt (.sl (v.values.map TEnumDef.enc)) : Nat) : Int)) - ((DC.wt (.sl (v.roots.map TRoot.enc)) : Nat) : Int) < 0 := by omega
  simp only [c6', decide_false, Bool.false_eq_true, if_false]
  rw [szS_Dir v.dirs ok.2.2.2.2.2.2.2.2.2.2.1 ((((((((left - ((v.desc.length : Nat) : Int)) - ((v.name.length : Nat) : Int)) - ((DC.wt (.sl (v.faces.map S1)) : Nat) : Int)) - ((DC.wt (.sl (v.fields.map TFieldDef.enc)) : Nat) : Int)) - ((DC.wt (.sl (v.inputs.map TInDef.enc)) : Nat) : Int)) - ((DC.wt (.sl (v.values.map TEnumDef.enc)) : Nat) : Int)) - ((DC.wt (.sl (v.roots.map TRoot.enc)) : Nat) : Int))) (by omega) (by omega)]
  simp only [Out.bindR_ret, List.getD_cons_zero, List.getD_cons_succ, DC.bb_b, DC.ii_i, DC.ss_s, DC.ll_sl]
  by_cases c7 : (((((((left - ((v.desc.length : Nat) : Int)) - ((v.name.length : Nat) : Int)) - ((DC.wt (.sl (v.faces.map S1)) : Nat) : Int)) - ((DC.wt (.sl (v.fields.map TFieldDef.enc)) : Nat) : Int)) - ((DC.wt (.sl (v.inputs.map TInDef.enc)) : Nat) : Int)) - ((DC.wt (.sl (v.values.map TEnumDef.enc)) : Nat) : Int)) - ((DC.wt (.sl (v.roots.map TRoot.enc)) : Nat) : Int)) < ((DC.wt (.sl (v.dirs.map TDir.enc)) : Nat) : Int)
  · rw [szR_lt c7]
    simp only [show (-1 : Int) < 0 by omega, decide_true, if_true]
    try rw [szR_lt (by omega)]
  rw [szR_ge c7]
  have c7' : ¬ (((((((left - ((v.desc.length : Nat) : Int)) - ((v.name.length : Nat) : Int)) - ((DC.wt (.sl (v.faces.map S1)) : Nat) : Int)) - ((DC.wt (.sl (v.fields.map TFieldDef.enc)) : Nat) : Int)) - ((DC.wt (.sl (v.inputs.map TInDef.enc)) : Nat) : Int)) - ((DC.wt (.sl (v.values.map TEnumDef.enc)) : Nat) : Int)) - ((DC.wt (.sl (v.roots.map TRoot.enc)) : Nat) : Int)) - ((DC.wt (.sl (v.dirs.map TDir.enc)) : Nat) : Int) < 0 := by omega
  simp only [c7', decide_false, Bool.false_eq_true, if_false]
  first
  | done
  | rw [show szR left (v.desc.length + v.name.length + DC.wt (.sl (v.faces.map S1)) + DC.wt (.sl (v.fields.map TFieldDef.enc)) + DC.wt (.sl (v.inputs.map TInDef.enc)) + DC.wt (.sl (v.values.map TEnumDef.enc)) + DC.wt (.sl (v.roots.map TRoot.enc)) + DC.wt (.sl (v.dirs.map TDir.enc))) = ((((((((left - ((v.desc.length : Nat) : Int)) - ((v.name.length : Nat) : Int)) - ((DC.wt (.sl (v.faces.map S1)) : Nat) : Int)) - ((DC.wt (.sl (v.fields.map TFieldDef.enc)) : Nat) : Int)) - ((DC.wt (.sl (v.inputs.map TInDef.enc)) : Nat) : Int)) - ((DC.wt (.sl (v.values.map TEnumDef.enc)) : Nat) : Int)) - ((DC.wt (.sl (v.roots.map TRoot.enc)) : Nat) : Int)) - ((DC.wt (.sl (v.dirs.map TDir.enc)) : Nat) : Int)) from (szR_ge (by omega)).trans (by omega)]
theorem szS_Def' (vs : List TDef) (hs : ∀ v ∈ vs, okL (TDef.enc v) → ∀ left : Int, 0 ≤ left → left ≤ 1048576 → r_laws_szDef [.i v.kind, .b v.ext, .s v.desc, .s v.name, .sl (v.faces.map S1), .sl (v.fields.map TFieldDef.enc), .sl (v.inputs.map TInDef.enc), .sl (v.values.map TEnumDef.enc), .sl (v.roots.map TRoot.enc), .b v.repeat', .sl (v.dirs.map TDir.enc), .i left] = .ret [.i (szR left (wtL (TDef.enc v)))]) (ok : (DC.sl (vs.map TDef.enc)).ok) (left : Int) (h0 : 0 ≤ left) (h1 : left ≤ 1048576) : r_laws_szDefS [.sl (vs.map TDef.enc), .i left] = .ret [.i (szR left (DC.wt (.sl (vs.map TDef.enc))))] := by
  rw [DC.ok, List.length_map] at ok
  obtain ⟨hl, ok⟩ := ok
  rw [eq_laws_szDefS]
  simp only [E_laws_szDefS, List.getD_cons_zero, List.getD_cons_succ, DC.bb_b, DC.ii_i, DC.ss_s, DC.ll_sl]
  refine szS_all hl (fun i hi left h0 h1 => ?_) (fun left => ?_) h0 h1
  · have key := hs vs[i] (List.getElem_mem hi) (okV_mem ok _ (List.mem_map_of_mem (List.getElem_mem hi))) left h0 h1
    generalize wtL (TDef.enc vs[i]) = w at key ⊢
    have hc1 : (i : Int) < (vs.length : Int) := by omega
    simp only [E_laws_szDefSL1, List.getD_cons_zero, List.getD_cons_succ, DC.bb_b, DC.ii_i, DC.ss_s, DC.ll_sl, Int.toNat_natCast, List.length_map, map_getD hi, TDef.enc_eq, key, Out.bindR_ret]
    by_cases hc : left < (w : Int)
    · simp [hi, hc1, hc, szR_lt hc]
    · simp [hi, hc1, hc, szR_ge hc, show ¬ left - (w : Int) < 0 by omega, wrap_succ hi hl]
  · simp [E_laws_szDefSL1]
theorem szS_Def (vs : List TDef) (ok : (DC.sl (vs.map TDef.enc)).ok) (left : Int) (h0 : 0 ≤ left) (h1 : left ≤ 1048576) : r_laws_szDefS [.sl (vs.map TDef.enc), .i left] = .ret [.i (szR left (DC.wt (.sl (vs.map TDef.enc))))] := szS_Def' vs (fun v _ => sz_Def v) ok left h0 h1
theorem to_Def (v : TDef) : wtL (TDef.enc v) ≤ 1048576 → r_laws_toDef [.i v.kind, .b v.ext, .s v.desc, .s v.name, .sl (v.faces.map S1), .sl (v.fields.map TFieldDef.enc), .sl (v.inputs.map TInDef.enc), .sl (v.values.map TEnumDef.enc), .sl (v.roots.map TRoot.enc), .b v.repeat', .sl (v.dirs.map TDir.enc)] = .ret (TDef.enc v) := by
  intro hw
  rw [wsum_Def] at hw
  rw [eq_laws_toDef]
  simp only [E_laws_toDef, List.getD_cons_zero, List.getD_cons_succ, DC.bb_b, DC.ii_i, DC.ss_s, DC.ll_sl]
  rw [toS_String v.faces (by have h := hw; simp only [DC.wt, List.length_map] at h; omega)]
  simp only [Out.bindR_ret, List.getD_cons_zero, List.getD_cons_succ, DC.bb_b, DC.ii_i, DC.ss_s, DC.ll_sl]
  rw [toS_FieldDef v.fields (by omega)]
  simp only [Out.bindR_ret, List.getD_cons_zero, List.getD_cons_succ, DC.bb_b, DC.ii_i, DC.ss_s, DC.ll_sl]
  rw [toS_InDef v.inputs (by omega)]
  simp only [Out.bindR_ret, List.getD_cons_zero, List.getD_cons_succ, DC.bb_b, DC.ii_i, DC.ss_s, DC.ll_sl]
  rw [toS_EnumDef v.values (by omega)]
  simp only [Out.bindR_ret, List.getD_cons_zero, List.getD_cons_succ, DC.bb_b, DC.ii_i, DC.ss_s, DC.ll_sl]
  rw [toS_Root v.roots (by omega)]
  simp only [Out.bindR_ret, List.getD_cons_zero, List.getD_cons_succ, DC.bb_b, DC.ii_i, DC.ss_s, DC.ll_sl]
  rw [toS_Dir v.dirs (by omega)]
  simp only [Out.bindR_ret, List.getD_cons_zero, List.getD_cons_succ, DC.bb_b, DC.ii_i, DC.ss_s, DC.ll_sl]
  rw [TDef.enc_eq]
theorem toS_Def' (vs : List TDef) (hs : ∀ v ∈ vs, wtL (TDef.enc v) ≤ 1048576 → r_laws_toDef [.i v.kind, .b v.ext, .s v.desc, .s v.name, .sl (v.faces.map S1), .sl (v.fields.map TFieldDef.enc), .sl (v.inputs.map TInDef.enc), .sl (v.values.map TEnumDef.enc), .sl (v.roots.map TRoot.enc), .b v.repeat', .sl (v.dirs.map TDir.enc)] = .ret (TDef.enc v)) (hw : DC.wt (.sl (vs.map TDef.enc)) ≤ 1048576) : r_laws_toDefS [.sl (vs.map TDef.enc)] = .ret [.sl (vs.map TDef.enc)] := by
  rw [DC.wt, List.length_map] at hw
  have hl : vs.length ≤ 1048576 := by omega
  rw [eq_laws_toDefS]
  simp only [E_laws_toDefS, List.getD_cons_zero, List.getD_cons_succ, DC.bb_b, DC.ii_i, DC.ss_s, DC.ll_sl]
  rw [if_pos ⟨by omega, by rw [List.length_map]; exact lim_of hl, trivial, by omega, by omega, rfl⟩, Int.toNat_natCast, List.length_map, show (0 : Int) = ((0 : Nat) : Int) from rfl, toS_loop hl (fun i hi cur h1 h2 => ?_) (fun cur => ?_)]
  · rfl
  · have key := hs vs[i] (List.getElem_mem hi) (by have := wtV_mem (List.mem_map_of_mem (f := TDef.enc) (List.getElem_mem hi)); omega)
    have hc1 : (i : Int) < (vs.length : Int) := by omega
    simp only [E_laws_toDefSL1, List.getD_cons_zero, List.getD_cons_succ, DC.bb_b, DC.ii_i, DC.ss_s, DC.ll_sl, Int.toNat_natCast, List.length_map, map_getD hi, h1, h2, TDef.enc_eq] at key ⊢
    simp only [key, List.getD_cons_zero, List.getD_cons_succ, DC.bb_b, DC.ii_i, DC.ss_s, DC.ll_sl, Out.bindR_ret]
    simp [hi, hc1, wrap_succ hi (show vs.length ≤ 9223372036854775807 by omega), setRunD]
  · simp [E_laws_toDefSL1]
theorem toS_Def (vs : List TDef) (hw : DC.wt (.sl (vs.map TDef.enc)) ≤ 1048576) : r_laws_toDefS [.sl (vs.map TDef.enc)] = .ret [.sl (vs.map TDef.enc)] := toS_Def' vs (fun v _ => to_Def v) hw
theorem eq_Def (v : TDef) : wtL (TDef.enc v) ≤ 1048576 → r_laws_eqDef [.i v.kind, .b v.ext, .s v.desc, .s v.name, .sl (v.faces.map S1), .sl (v.fields.map TFieldDef.enc), .sl (v.inputs.map TInDef.enc), .sl (v.values.map TEnumDef.enc), .sl (v.roots.map TRoot.enc), .b v.repeat', .sl (v.dirs.map TDir.enc), .i v.kind, .b v.ext, .s v.desc, .s v.name, .sl (v.faces.map S1), .sl (v.fields.map TFieldDef.enc), .sl (v.inputs.map TInDef.enc), .sl (v.values.map TEnumDef.enc), .sl (v.roots.map TRoot.enc), .b v.repeat', .sl (v.dirs.map TDir.enc)] = .ret [.b true] := by
  intro hw
  rw [wsum_Def] at hw
  rw [eq_laws_eqDef]
  simp only [E_laws_eqDef, List.getD_cons_zero, List.getD_cons_succ, DC.bb_b, DC.ii_i, DC.ss_s, DC.ll_sl, bne_self_eq_false, beq_self_eq_true, Bool.not_true, Bool.false_eq_true, if_false]
  rw [eqS_String v.faces (by have h := hw; simp only [DC.wt, List.length_map] at h; omega)]
  simp only [Out.bindR_ret, List.getD_cons_zero, List.getD_cons_succ, DC.bb_b, DC.ii_i, DC.ss_s, DC.ll_sl, bne_self_eq_false, beq_self_eq_true, Bool.not_true, Bool.false_eq_true, if_false]
  rw [eqS_FieldDef v.fields (by omega)]
  simp only [Out.bindR_ret, List.getD_cons_zero, List.getD_cons_succ, DC.bb_b, DC.ii_i, DC.ss_s, DC.ll_sl, bne_self_eq_false, beq_self_eq_true, Bool.not_true, Bool.false_eq_true, if_false]
  rw [eqS_InDef v.inputs (by omega)]
  simp only [Out.bindR_ret, List.getD_cons_zero, List.getD_cons_succ, DC.bb_b, DC.ii_i, DC.ss_s, DC.ll_sl, bne_self_eq_false, beq_self_eq_true, Bool.not_true, Bool.false_eq_true, if_false]
  rw [eqS_EnumDef v.values (by omega)]
  simp only [Out.bindR_ret, List.getD_cons_zero, List.getD_cons_succ, DC.bb_b, DC.ii_i, DC.ss_s, DC.ll_sl, bne_self_eq_false, beq_self_eq_true, Bool.not_true, Bool.false_eq_true, if_false]
  rw [eqS_Root v.roots (by omega)]
  simp only [Out.bindR_ret, List.getD_cons_zero, List.getD_cons_succ, DC.bb_b, DC.ii_i, DC.ss_s, DC.ll_sl, bne_self_eq_false, beq_self_eq_true, Bool.not_true, Bool.false_eq_true, if_false]
  rw [eqS_Dir v.dirs (by omega)]
  simp only [Out.bindR_ret, List.getD_cons_zero, List.getD_cons_succ, DC.bb_b, DC.ii_i, DC.ss_s, DC.ll_sl, bne_self_eq_false, beq_self_eq_true, Bool.not_true, Bool.false_eq_true, if_false]
theorem eqS_Def' (vs : List TDef) (hs : ∀ v ∈ vs, wtL (TDef.enc v) ≤ 1048576 → r_laws_eqDef [.i v.kind, .b v.ext, .s v.desc, .s v.name, .sl (v.faces.map S1), .sl (v.fields.map TFieldDef.enc), .sl (v.inputs.map TInDef.enc), .sl (v.values.map TEnumDef.enc), .sl (v.roots.map TRoot.enc), .b v.repeat', .sl (v.dirs.map TDir.enc), .i v.kind, .b v.ext, .s v.desc, .s v.name, .sl (v.faces.map S1), .sl (v.fields.map TFieldDef.enc), .sl (v.inputs.map TInDef.enc), .sl (v.values.map TEnumDef.enc), .sl (v.roots.map TRoot.enc), .b v.repeat', .sl (v.dirs.map TDir.enc)] = .ret [.b true]) (hw : DC.wt (.sl (vs.map TDef.enc)) ≤ 1048576) : r_laws_eqDefS [.sl (vs.map TDef.enc), .sl (vs.map TDef.enc)] = .ret [.b true] := by
  rw [DC.wt, List.length_map] at hw
  have hl : vs.length ≤ 1048576 := by omega
  rw [eq_laws_eqDefS]
  simp only [E_laws_eqDefS, List.getD_cons_zero, List.getD_cons_succ, DC.bb_b, DC.ii_i, DC.ss_s, DC.ll_sl]
  refine eqS_all (fun i hi => ?_) ?_
  · rw [List.length_map] at hi
    have key := hs vs[i] (List.getElem_mem hi) (by have := wtV_mem (List.mem_map_of_mem (f := TDef.enc) (List.getElem_mem hi)); omega)
    have hc1 : (i : Int) < (vs.length : Int) := by omega
    simp only [E_laws_eqDefSL1, List.getD_cons_zero, List.getD_cons_succ, DC.bb_b, DC.ii_i, DC.ss_s, DC.ll_sl, Int.toNat_natCast, List.length_map, map_getD hi, TDef.enc_eq] at key ⊢
    simp only [key, List.getD_cons_zero, List.getD_cons_succ, DC.bb_b, DC.ii_i, DC.ss_s, DC.ll_sl, Out.bindR_ret]
    simp [hi, hc1, wrap_succ hi (show vs.length ≤ 9223372036854775807 by omega)]
  · simp [E_laws_eqDefSL1]
theorem eqS_Def (vs : List TDef) (hw : DC.wt (.sl (vs.map TDef.enc)) ≤ 1048576) : r_laws_eqDefS [.sl (vs.map TDef.enc), .sl (vs.map TDef.enc)] = .ret [.b true] := eqS_Def' vs (fun v _ => eq_Def v) hw
theorem wsum_Schema (v : TSchema) : wtL (TSchema.enc v) = DC.wt (.sl (v.types.map TDef.enc)) + DC.wt (.sl (v.dirs.map TDef.enc)) + DC.wt (.sl (v.roots.map TRoot.enc)) := by
  simp only [TSchema.enc_eq, wtL, DC.wt]
  try omega
theorem sz_Schema (v : TSchema) : okL (TSchema.enc v) → ∀ left : Int, 0 ≤ left → left ≤ 1048576 → r_laws_szSchema [.sl (v.types.map TDef.enc), .sl (v.dirs.map TDef.enc), .sl (v.roots.map TRoot.enc), .i left] = .ret [.i (szR left (wtL (TSchema.enc v)))] := by
  intro ok left h0 h1
  rw [TSchema.enc_eq] at ok
  simp only [okL] at ok
  rw [eq_laws_szSchema]
  simp only [E_laws_szSchema, List.getD_cons_zero, List.getD_cons_succ, DC.bb_b, DC.ii_i, DC.ss_s, DC.ll_sl]
  rw [wsum_Schema]
  rw [szS_Def v.types ok.1 (left) (by omega) (by omega)]
  simp only [Out.bindR_ret, List.getD_cons_zero, List.getD_cons_succ, DC.bb_b, DC.ii_i, DC.ss_s, DC.ll_sl]
  by_cases c0 : left < ((DC.wt (.sl (v.types.map TDef.enc)) : Nat) : Int)
  · rw [szR_lt c0]
    simp only [show (-1 : Int) < 0 by omega, decide_true, if_true]
    try rw [szR_lt (by omega)]
  rw [szR_ge c0]
  have c0' : ¬ left - ((DC.wt (.sl (v.types.map TDef.enc)) : Nat) : Int) < 0 := by omega
  simp only [c0', decide_false, Bool.false_eq_true, if_false]
  rw [szS_Def v.dirs ok.2.1 ((left - ((DC.wt (.sl (v.types.map TDef.enc)) : Nat) : Int))) (by omega) (by omega)]
  simp only [Out.bindR_ret, List.getD_cons_zero, List.getD_cons_succ, DC.bb_b, DC.ii_i, DC.ss_s, DC.ll_sl]
  by_cases c1 : (left - ((DC.wt (.sl (v.types.map TDef.enc)) : Nat) : Int)) < ((DC.wt (.sl (v.dirs.map TDef.enc)) : Nat) : Int)
  · rw [szR_lt c1]
    simp only [show (-1 : Int) < 0 by omega, decide_true, if_true]
    try rw [szR_lt (by omega)]
  rw [szR_ge c1]
  have c1' : ¬ (left - ((DC.wt (.sl (v.types.map TDef.enc)) : Nat) : Int)) - ((DC.wt (.sl (v.dirs.map TDef.enc)) : Nat) : Int) < 0 := by omega
  simp only [c1', decide_false, Bool.false_eq_true, if_false]
  rw [szS_Root v.roots ok.2.2.1 (((left - ((DC.wt (.sl (v.types.map TDef.enc)) : Nat) : Int)) - ((DC.wt (.sl (v.dirs.map TDef.enc)) : Nat) : Int))) (by omega) (by omega)]
  simp only [Out.bindR_ret, List.getD_cons_zero, List.getD_cons_succ, DC.bb_b, DC.ii_i, DC.ss_s, DC.ll_sl]
  by_cases c2 : ((left - ((DC.wt (.sl (v.types.map TDef.enc)) : Nat) : Int)) - ((DC.wt (.sl (v.dirs.map TDef.enc)) : Nat) : Int)) < ((DC.wt (.sl (v.roots.map TRoot.enc)) : Nat) : Int)
  · rw [szR_lt c2]
    simp only [show (-1 : Int) < 0 by omega, decide_true, if_true]
    try rw [szR_lt (by omega)]
  rw [szR_ge c2]
  have c2' : ¬ ((left - ((DC.wt (.sl (v.types.map TDef.enc)) : Nat) : Int)) - ((DC.wt (.sl (v.dirs.map TDef.enc)) : Nat) : Int)) - ((DC.wt (.sl (v.roots.map TRoot.enc)) : Nat) : Int) < 0 := by omega
  simp only [c2', decide_false, Bool.false_eq_true, if_false]
  first
  | done
  | rw [show szR left (DC.wt (.sl (v.types.map TDef.enc)) + DC.wt (.sl (v.dirs.map TDef.enc)) + DC.wt (.sl (v.roots.map TRoot.enc))) = (((left - ((DC.wt (.sl (v.types.map TDef.enc)) : Nat) : Int)) - ((DC.wt (.sl (v.dirs.map TDef.enc)) : Nat) : Int)) - ((DC.wt (.sl (v.roots.map TRoot.enc)) : Nat) : Int)) from (szR_ge (by omega)).trans (by omega)]
theorem to_Schema (v : TSchema) : wtL (TSchema.enc v) ≤ 1048576 → r_laws_toSchema [.sl (v.types.map TDef.enc), .sl (v.dirs.map TDef.enc), .sl (v.roots.map TRoot.enc)] = .ret (TSchema.enc v) := by
  intro hw
  rw [wsum_Schema] at hw
  rw [eq_laws_toSchema]
  simp only [E_laws_toSchema, List.getD_cons_zero, List.getD_cons_succ, DC.bb_b, DC.ii_i, DC.ss_s, DC.ll_sl]
  rw [toS_Def v.types (by omega)]
  simp only [Out.bindR_ret, List.getD_cons_zero, List.getD_cons_succ, DC.bb_b, DC.ii_i, DC.ss_s, DC.ll_sl]
  rw [toS_Def v.dirs (by omega)]
  simp only [Out.bindR_ret, List.getD_cons_zero, List.getD_cons_succ, DC.bb_b, DC.ii_i, DC.ss_s, DC.ll_sl]
  rw [toS_Root v.roots (by omega)]
  simp only [Out.bindR_ret, List.getD_cons_zero, List.getD_cons_succ, DC.bb_b, DC.ii_i, DC.ss_s, DC.ll_sl]
  rw [TSchema.enc_eq]
theorem eq_Schema (v : TSchema) : wtL (TSchema.enc v) ≤ 1048576 → r_laws_eqSchema [.sl (v.types.map TDef.enc), .sl (v.dirs.map TDef.enc), .sl (v.roots.map TRoot.enc), .sl (v.types.map TDef.enc), .sl (v.dirs.map TDef.enc), .sl (v.roots.map TRoot.enc)] = .ret [.b true] := by
  intro hw
  rw [wsum_Schema] at hw
  rw [eq_laws_eqSchema]
  simp only [E_laws_eqSchema, List.getD_cons_zero, List.getD_cons_succ, DC.bb_b, DC.ii_i, DC.ss_s, DC.ll_sl, bne_self_eq_false, beq_self_eq_true, Bool.not_true, Bool.false_eq_true, if_false]
  rw [eqS_Def v.types (by omega)]
  simp only [Out.bindR_ret, List.getD_cons_zero, List.getD_cons_succ, DC.bb_b, DC.ii_i, DC.ss_s, DC.ll_sl, bne_self_eq_false, beq_self_eq_true, Bool.not_true, Bool.false_eq_true, if_false]
  rw [eqS_Def v.dirs (by omega)]
  simp only [Out.bindR_ret, List.getD_cons_zero, List.getD_cons_succ, DC.bb_b, DC.ii_i, DC.ss_s, DC.ll_sl, bne_self_eq_false, beq_self_eq_true, Bool.not_true, Bool.false_eq_true, if_false]
  rw [eqS_Root v.roots (by omega)]
  simp only [Out.bindR_ret, List.getD_cons_zero, List.getD_cons_succ, DC.bb_b, DC.ii_i, DC.ss_s, DC.ll_sl, bne_self_eq_false, beq_self_eq_true, Bool.not_true, Bool.false_eq_true, if_false]
def placeOf {α : Type} (p : α → Bool) (l : List α) : Int := match l.findIdx? p with | some i => (i : Int) | none => -1
theorem goF_place {α : Type} {p : α → Bool} {g : Int → List DC} {fin : Out} : ∀ (l : List α) (i : Nat), goF p (fun i _ => .ret (g (i : Int))) fin i l = match l.findIdx? p with | some j => .ret (g ((i + j : Nat) : Int)) | none => fin
  | [], i => rfl
  | x :: l, i => by
    rw [goF, goF_place l (i + 1), List.findIdx?_cons]
    cases p x with
    | true => simp
    | false =>
      simp only [Bool.false_eq_true, if_false]
      cases l.findIdx? p with
      | none => rfl
      | some j => simp only [Option.map_some]; congr 3; omega
def typeAt (l : List TDef) (n : List UInt8) : Int := if 60 < l.length then -1 else placeOf (fun d => d.name == n) l
theorem spec_TypeAt (l : List TDef) (d r : List (List DC)) (n : List UInt8) (hl : l.length ≤ 1048576) : r_spec_TypeAt [.sl (l.map TDef.enc), .sl d, .sl r, .s n] = .ret [.i (typeAt l n)] := by
  rw [eq_spec_TypeAt]
  simp only [E_spec_TypeAt, List.getD_cons_zero, List.getD_cons_succ, DC.bb_b, DC.ii_i, DC.ss_s, DC.ll_sl]
  rw [typeAt]
  by_cases h60 : 60 < l.length
  · rw [Loop_ex (r := []) (id := 0) (by
      have h0 : (0 : Int) < (l.length : Int) := by omega
      have h1 : ¬ (l.length : Int) ≤ 60 := by omega
      simp [E_spec_TypeAtL1, h0, h1])]
    simp [h60]
  · rw [if_neg h60, show (0 : Int) = ((0 : Nat) : Int) from rfl, Loop_find0 (l := l) (st := fun i => [.s n, .i (i : Int), .sl (l.map TDef.enc), .sl d, .sl r]) (p := fun d => d.name == n) (stop := fun i _ => .ret [.i (i : Int)]) (fin := .ex 0 []) (fun i hi => ?step) (fun _ _ => Out.esc_ret _) ?fin (Out.esc_ex _ _), goF_place (g := fun i => [.i i]), placeOf]
    · cases l.findIdx? fun d => d.name == n <;> simp
    case step =>
      have h1 : (l.length : Int) ≤ 60 := by omega
      simp only [E_spec_TypeAtL1, List.getD_cons_zero, List.getD_cons_succ, DC.bb_b, DC.ii_i, DC.ss_s, DC.ll_sl, Int.toNat_natCast, List.length_map, map_getD hi, TDef.enc_eq]
      by_cases hp : l[i].name = n <;> simp [hi, hp, h1, wrap_succ hi (show l.length ≤ 9223372036854775807 by omega), map_getD hi, TDef.enc_eq]
    case fin => simp [E_spec_TypeAtL1]
theorem index_named (l : List TDef) (n : List UInt8) (hl : l.length ≤ 1048576) : r_slices_IndexFunc_impl_Def__impl_named_1 [.sl (l.map TDef.enc), .s n] = .ret [.i (placeOf (fun d => d.name == n) l), .s n] := by
  rw [eq_slices_IndexFunc_impl_Def__impl_named_1]
  simp only [E_slices_IndexFunc_impl_Def__impl_named_1, List.getD_cons_zero, List.getD_cons_succ, DC.bb_b, DC.ii_i, DC.ss_s, DC.ll_sl, List.length_map]
  rw [show (0 : Int) = ((0 : Nat) : Int) from rfl, Loop_find0 (l := l) (st := fun i => [.sl (l.map TDef.enc), .i (l.length : Int), .i (i : Int), .s n]) (p := fun d => d.name == n) (stop := fun i _ => .ret [.i (i : Int), .s n]) (fin := .ex 0 [.s n]) (fun i hi => ?step) (fun _ _ => Out.esc_ret _) ?fin (Out.esc_ex _ _), goF_place (g := fun i => [.i i, .s n]), placeOf]
  · cases l.findIdx? fun d => d.name == n <;> simp
  case step =>
    simp only [E_slices_IndexFunc_impl_Def__impl_named_1L1, List.getD_cons_zero, List.getD_cons_succ, DC.bb_b, DC.ii_i, DC.ss_s, DC.ll_sl, Int.toNat_natCast, List.length_map, map_getD hi, TDef.enc_eq, eq_impl_named_1, E_impl_named_1, Out.bindR_ret]
    by_cases hp : l[i].name = n <;> simp [hi, hp, wrap_succ hi (show l.length ≤ 9223372036854775807 by omega)]
  case fin => simp [E_slices_IndexFunc_impl_Def__impl_named_1L1]
theorem impl_named (l : List TDef) (n : List UInt8) (hl : l.length ≤ 1048576) : r_impl_named [.sl (l.map TDef.enc), .s n] = .ret [.i (typeAt l n)] := by
  rw [eq_impl_named]
  simp only [E_impl_named, List.getD_cons_zero, List.getD_cons_succ, DC.bb_b, DC.ii_i, DC.ss_s, DC.ll_sl, List.length_map, typeAt]
  by_cases h60 : 60 < l.length
  · have h1 : (l.length : Int) > 60 := by omega
    simp [h60, h1]
  · have h1 : ¬ (l.length : Int) > 60 := by omega
    simp only [h60, h1, decide_false, Bool.false_eq_true, if_false, index_named l n hl, Out.bindR_ret, List.getD_cons_zero, DC.ii_i]
theorem impl_TypeAt (l : List TDef) (d r : List (List DC)) (n : List UInt8) (hl : l.length ≤ 1048576) : r_impl_TypeAt [.sl (l.map TDef.enc), .sl d, .sl r, .s n] = .ret [.i (typeAt l n)] := by
  rw [eq_impl_TypeAt]
  simp only [E_impl_TypeAt, List.getD_cons_zero, List.getD_cons_succ, DC.bb_b, DC.ii_i, DC.ss_s, DC.ll_sl, impl_named l n hl, Out.bindR_ret]
def defOf (l : List TDef) (n : List UInt8) : Option TDef := if 60 < l.length then none else l.find? (fun d => d.name == n)
theorem place_find {α : Type} (p : α → Bool) : ∀ (l : List α), (placeOf p l = -1 ∧ l.find? p = none) ∨ ∃ (i : Nat) (h : i < l.length), placeOf p l = (i : Int) ∧ l.find? p = some l[i] ∧ p l[i] = true := by
  intro l
  induction l with
  | nil => exact .inl ⟨rfl, rfl⟩
  | cons x l ih =>
    simp only [placeOf, List.findIdx?_cons, List.find?_cons] at ih ⊢
    cases hp : p x with
    | true => exact .inr ⟨0, by simp, by simp, by simp [hp]⟩
    | false =>
      simp only [Bool.false_eq_true, if_false]
      rcases ih with ⟨h1, h2⟩ | ⟨i, h, h1, h2, h3⟩
      · left
        refine ⟨?_, h2⟩
        cases hf : l.findIdx? p with
        | none => rfl
        | some j => rw [hf] at h1; simp at h1
      · right
        refine ⟨i + 1, by simp; omega, ?_, by simpa using h2, by simpa using h3⟩
        cases hf : l.findIdx? p with
        | none => rw [hf] at h1; simp at h1
        | some j => rw [hf] at h1; simp only [Option.map_some] at h1 ⊢; omega
theorem typeAt_cases (l : List TDef) (n : List UInt8) : (typeAt l n = -1 ∧ defOf l n = none) ∨ ∃ (i : Nat) (h : i < l.length), typeAt l n = (i : Int) ∧ defOf l n = some l[i] ∧ l.length ≤ 60 := by
  unfold typeAt defOf
  by_cases h60 : 60 < l.length
  · left; simp [h60]
  · simp only [h60, if_false]
    rcases place_find (fun d : TDef => d.name == n) l with h | ⟨i, h, h1, h2, h3⟩
    · exact .inl h
    · exact .inr ⟨i, h, h1, h2, by omega⟩
def zDef : TDef := ⟨0, false, [], [], [], [], [], [], [], false, []⟩
theorem impl_typeDef (l : List TDef) (d r : List (List DC)) (n : List UInt8) (hl : l.length ≤ 1048576) : r_impl_typeDef [.sl (l.map TDef.enc), .sl d, .sl r, .s n] = .ret (((defOf l n).getD zDef).enc ++ [.b (defOf l n).isSome]) := by
  rw [eq_impl_typeDef]
  simp only [E_impl_typeDef, List.getD_cons_zero, List.getD_cons_succ, DC.bb_b, DC.ii_i, DC.ss_s, DC.ll_sl, impl_TypeAt l d r n hl, Out.bindR_ret]
  rcases typeAt_cases l n with ⟨h1, h2⟩ | ⟨i, h, h1, h2, _⟩
  · rw [h1, h2]
    rfl
  · rw [h1, h2]
    have hn : ¬ (i : Int) < 0 := by omega
    simp only [hn, decide_false, Bool.false_eq_true, if_false, Int.toNat_natCast, map_getD h, List.length_map, TDef.enc_eq, Option.getD_some, Option.isSome_some, List.getD_cons_zero, List.getD_cons_succ, DC.bb_b, DC.ii_i, DC.ss_s, DC.ll_sl]
    simp [h]
theorem spec_l18Has (l : List (List UInt8)) (n : List UInt8) (hl : l.length ≤ 1048576) : r_spec_l18Has [.sl (l.map S1), .s n] = .ret [.b (l.any (· == n))] := by
  rw [eq_spec_l18Has]
  simp only [E_spec_l18Has, List.getD_cons_zero, List.getD_cons_succ, DC.bb_b, DC.ii_i, DC.ss_s, DC.ll_sl]
  rw [show (0 : Int) = ((0 : Nat) : Int) from rfl, Loop_find0 (l := l) (st := fun i => [.sl (l.map S1), .s n, .i (i : Int)]) (p := fun d => d == n) (stop := fun i _ => .ret [.b true]) (fin := .ex 0 []) (fun i hi => ?step) (fun _ _ => Out.esc_ret _) ?fin (Out.esc_ex _ _), goF_any]
  · cases l.any fun d => d == n <;> simp
  case step =>
    simp only [E_spec_l18HasL1, List.getD_cons_zero, List.getD_cons_succ, DC.bb_b, DC.ii_i, DC.ss_s, DC.ll_sl, Int.toNat_natCast, List.length_map, map_getD hi, S1]
    by_cases hp : l[i] = n <;> simp [hi, hp, wrap_succ hi (show l.length ≤ 9223372036854775807 by omega)]
  case fin => simp [E_spec_l18HasL1]
theorem slices_Index_string (l : List (List UInt8)) (n : List UInt8) (hl : l.length ≤ 1048576) : r_slices_Index_string [.sl (l.map S1), .s n] = .ret [.i (placeOf (· == n) l)] := by
  rw [eq_slices_Index_string]
  simp only [E_slices_Index_string, List.getD_cons_zero, List.getD_cons_succ, DC.bb_b, DC.ii_i, DC.ss_s, DC.ll_sl, List.length_map]
  rw [show (0 : Int) = ((0 : Nat) : Int) from rfl, Loop_find0 (l := l) (st := fun i => [.sl (l.map S1), .s n, .i (l.length : Int), .i (i : Int)]) (p := fun d => d == n) (stop := fun i _ => .ret [.i (i : Int)]) (fin := .ex 0 []) (fun i hi => ?step) (fun _ _ => Out.esc_ret _) ?fin (Out.esc_ex _ _), goF_place (g := fun i => [.i i]), placeOf]
  · cases l.findIdx? fun d => d == n <;> simp
  case step =>
    simp only [E_slices_Index_stringL1, List.getD_cons_zero, List.getD_cons_succ, DC.bb_b, DC.ii_i, DC.ss_s, DC.ll_sl, Int.toNat_natCast, List.length_map, map_getD hi, S1]
    by_cases hp : n = l[i]
    · simp [hi, ← hp, wrap_succ hi (show l.length ≤ 9223372036854775807 by omega)]
    · have hp2 : ¬ l[i] = n := fun h => hp h.symm
      simp [hi, hp, hp2, wrap_succ hi (show l.length ≤ 9223372036854775807 by omega)]
  case fin => simp [E_slices_Index_stringL1]
theorem placeOf_nonneg {α : Type} (p : α → Bool) (l : List α) : decide (placeOf p l ≥ 0) = l.any p := by
  rcases place_find p l with ⟨h1, h2⟩ | ⟨i, h, h1, h2, h3⟩
  · rw [h1, List.any_eq_false.2 (fun x hx => by simpa using List.find?_eq_none.1 h2 x hx)]
    rfl
  · rw [h1, List.any_eq_true.2 ⟨l[i], List.getElem_mem h, h3⟩]
    simp
theorem slices_Contains_string (l : List (List UInt8)) (n : List UInt8) (hl : l.length ≤ 1048576) : r_slices_Contains_string [.sl (l.map S1), .s n] = .ret [.b (l.any (· == n))] := by
  rw [eq_slices_Contains_string]
  simp only [E_slices_Contains_string, List.getD_cons_zero, List.getD_cons_succ, DC.bb_b, DC.ii_i, DC.ss_s, DC.ll_sl, slices_Index_string l n hl, Out.bindR_ret]
  rw [placeOf_nonneg]
theorem def_wt {l : List TDef} (hw : DC.wt (.sl (l.map TDef.enc)) ≤ 1048576) {d : TDef} (hd : d ∈ l) : wtL d.enc ≤ 1048576 := by
  rw [DC.wt] at hw
  have := wtV_mem (List.mem_map_of_mem (f := TDef.enc) hd)
  omega
theorem defs_len {l : List TDef} (hw : DC.wt (.sl (l.map TDef.enc)) ≤ 1048576) : l.length ≤ 1048576 := by
  rw [DC.wt, List.length_map] at hw
  omega
theorem faces_len {d : TDef} (h : wtL d.enc ≤ 1048576) : d.faces.length ≤ 1048576 := by
  simp only [TDef.enc_eq, wtL, DC.wt, List.length_map] at h
  omega
theorem defOf_mem {l : List TDef} {n : List UInt8} {d : TDef} (h : defOf l n = some d) : d ∈ l := by
  unfold defOf at h
  split at h
  · simp at h
  · exact List.mem_of_find?_eq_some h
def below (l : List TDef) (a b : List UInt8) : Bool :=
  a == b || match defOf l a, defOf l b with
    | some x, some y => (y.kind == 3 && (x.kind == 2 || x.kind == 3) && x.faces.any (· == b)) || (y.kind == 4 && x.kind == 2 && y.faces.any (· == a))
    | _, _ => false
abbrev Wd := List UInt8
theorem bl_eq : ∀ (x y : Wd), Op.bytesLess x y = decide (x < y)
  | x, [] => by
    have : ¬ x < [] := by simp
    cases x <;> simp [Op.bytesLess]
  | [], b :: y => by simp [Op.bytesLess]
  | a :: x, b :: y => by
    rw [Op.bytesLess, bl_eq x y]
    simp only [List.cons_lt_cons_iff]
    by_cases h : a < b
    · simp [h]
    · by_cases h' : a = b
      · subst h'; simp
      · simp [h, h']
theorem wd_le {x y : Wd} : (Op.bytesLess x y || x == y) = decide (x ≤ y) := by
  rw [bl_eq]
  by_cases h : x < y
  · simp [h, List.le_of_lt h]
  · by_cases h' : x = y
    · subst h'; simp [List.le_refl]
    · have : ¬ x ≤ y := fun k => h (by
        rcases List.not_lt.1 h with k2
        exact absurd (List.le_antisymm k k2) h')
      simp [h, h', this]
theorem wd_lt_of {x y : Wd} (h : x ≤ y) (hn : x ≠ y) : x < y := by
  by_cases k : x < y
  · exact k
  · exact absurd (List.le_antisymm h (List.not_lt.1 k)) hn
theorem wd_lt_le {x y z : Wd} (h : x < y) (k : y ≤ z) : x < z := by
  by_cases e : y = z
  · exact e ▸ h
  · exact List.lt_trans h (wd_lt_of k e)
theorem wd_le_lt {x y z : Wd} (h : x ≤ y) (k : y < z) : x < z := by
  by_cases e : x = y
  · exact e ▸ k
  · exact List.lt_trans (wd_lt_of h e) k
theorem wd_le_trans {x y z : Wd} (h : x ≤ y) (k : y ≤ z) : x ≤ z := by
  by_cases e : x = y
  · exact e ▸ k
  · exact List.le_of_lt (wd_lt_le (wd_lt_of h e) k)
theorem wd_total (x y : Wd) : x ≤ y ∨ y ≤ x := by
  by_cases k : x < y
  · exact .inl (List.le_of_lt k)
  · exact .inr (List.not_lt.1 k)
def Up (l : List Wd) : Prop := l.Pairwise (· < ·)
theorem Up.ext : ∀ {l m : List Wd}, Up l → Up m → (∀ x, x ∈ l ↔ x ∈ m) → l = m
  | [], [], _, _, _ => rfl
  | [], y :: m, _, _, h => absurd ((h y).2 (by simp)) (by simp)
  | x :: l, [], _, _, h => absurd ((h x).1 (by simp)) (by simp)
  | x :: l, y :: m, hl, hm, h => by
    obtain ⟨h1, h2⟩ := List.pairwise_cons.1 hl
    obtain ⟨k1, k2⟩ := List.pairwise_cons.1 hm
    have e : x = y := by
      rcases List.mem_cons.1 ((h x).1 (by simp)) with e | e
      · exact e
      · rcases List.mem_cons.1 ((h y).2 (by simp)) with e' | e'
        · exact e'.symm
        · exact absurd (List.lt_trans (h1 y e') (k1 x e)) (List.lt_irrefl _)
    subst e
    congr 1
    refine Up.ext h2 k2 fun z => ⟨fun hz => ?_, fun hz => ?_⟩
    · rcases List.mem_cons.1 ((h z).1 (by simp [hz])) with e | e
      · subst e; exact absurd (h1 z hz) (List.lt_irrefl _)
      · exact e
    · rcases List.mem_cons.1 ((h z).2 (by simp [hz])) with e | e
      · subst e; exact absurd (k1 z hz) (List.lt_irrefl _)
      · exact e
def ups (l : List Wd) : List Wd := Lib.compact (l.mergeSort fun x y => decide (x ≤ y))
theorem compactUpTo_up {zs : List Wd} (hs : zs.Pairwise (· ≤ ·)) : ∀ m, m ≤ zs.length → Up (Lib.compactUpTo zs.toArray m) ∧ (∀ x, x ∈ Lib.compactUpTo zs.toArray m ↔ ∃ j, j < m ∧ zs[j]? = some x)
  | 0, _ => by
    refine ⟨by simp [Up, Lib.compactUpTo], fun x => by simp [Lib.compactUpTo]⟩
  | m + 1, hm => by
    obtain ⟨h1, h2⟩ := compactUpTo_up hs m (by omega)
    have hget : ∀ j, j < zs.length → zs.toArray[j]! = zs.getD j [] := fun j hj => by
      rw [getElem!_pos _ j (by simpa using hj)]
      simp [hj]
    have hgs : ∀ j, j < zs.length → zs[j]? = some (zs.getD j []) := fun j hj => by simp [hj]
    have hle : ∀ i j, i < j → j < zs.length → zs.getD i [] ≤ zs.getD j [] := fun i j hij hj => by
      have := List.pairwise_iff_getElem.1 hs i j (by omega) hj hij
      simpa [show i < zs.length by omega, hj] using this
    rw [Lib.compactUpTo_succ]
    by_cases hk : Lib.keeps zs.toArray m = true
    · rw [if_pos hk, hget m (by omega)]
      refine ⟨?_, fun x => ?_⟩
      · refine List.pairwise_append.2 ⟨h1, by simp, fun x hx y hy => ?_⟩
        simp only [List.mem_singleton] at hy
        subst hy
        obtain ⟨j, hj, hjx⟩ := (h2 x).1 hx
        rw [hgs j (by omega)] at hjx
        obtain rfl := Option.some.inj hjx
        have hne : zs.getD m [] ≠ zs.getD (m - 1) [] := by
          unfold Lib.keeps at hk
          rw [decide_eq_true_eq, hget m (by omega), hget (m - 1) (by omega)] at hk
          rcases hk with hk | hk
          · omega
          · exact hk
        have h3 : zs.getD (m - 1) [] < zs.getD m [] := wd_lt_of (hle (m - 1) m (by omega) (by omega)) fun e => hne e.symm
        by_cases e : j = m - 1
        · subst e; exact h3
        · exact wd_le_lt (hle j (m - 1) (by omega) (by omega)) h3
      · rw [List.mem_append, h2 x]
        simp only [List.mem_singleton]
        constructor
        · rintro (⟨j, hj, e⟩ | rfl)
          · exact ⟨j, by omega, e⟩
          · exact ⟨m, by omega, hgs m (by omega)⟩
        · rintro ⟨j, hj, e⟩
          by_cases hjm : j = m
          · subst hjm
            right
            rw [hgs j (by omega)] at e
            exact (Option.some.inj e).symm
          · exact .inl ⟨j, by omega, e⟩
    · rw [if_neg hk, List.append_nil]
      refine ⟨h1, fun x => ?_⟩
      rw [h2 x]
      have hk' : 0 < m ∧ zs.getD m [] = zs.getD (m - 1) [] := by
        unfold Lib.keeps at hk
        rw [decide_eq_true_eq, not_or, hget m (by omega)] at hk
        have hm0 : 0 < m := by omega
        rw [hget (m - 1) (by omega)] at hk
        exact ⟨hm0, by simpa using hk.2⟩
      constructor
      · rintro ⟨j, hj, e⟩
        exact ⟨j, by omega, e⟩
      · rintro ⟨j, hj, e⟩
        by_cases hjm : j = m
        · subst hjm
          refine ⟨j - 1, by omega, ?_⟩
          rw [← e, hgs j (by omega), hgs (j - 1) (by omega), hk'.2]
        · exact ⟨j, by omega, e⟩
theorem ups_up (l : List Wd) : Up (ups l) ∧ ∀ x, x ∈ ups l ↔ x ∈ l := by
  have hs : (l.mergeSort fun x y => decide (x ≤ y)).Pairwise (· ≤ ·) := by
    have := List.pairwise_mergeSort (le := fun x y : Wd => decide (x ≤ y)) (fun a b c h1 h2 => by
      simp only [decide_eq_true_eq] at *
      exact wd_le_trans h1 h2) (fun a b => by
      rcases wd_total a b with h | h <;> simp [h]) l
    exact this.imp fun h => by simpa using h
  obtain ⟨h1, h2⟩ := compactUpTo_up hs _ (Nat.le_refl _)
  refine ⟨h1, fun x => ?_⟩
  unfold ups Lib.compact
  rw [h2 x, ← List.mem_mergeSort (le := fun x y : Wd => decide (x ≤ y)) (l := l)]
  rw [List.mem_iff_getElem?]
  constructor
  · rintro ⟨j, _, e⟩; exact ⟨j, e⟩
  · rintro ⟨j, e⟩
    refine ⟨j, ?_, e⟩
    rcases Nat.lt_or_ge j (l.mergeSort fun x y => decide (x ≤ y)).length with h | h
    · exact h
    · rw [List.getElem?_eq_none h] at e; cases e
def push (out : List Wd) (s : Wd) : List Wd := if out.length = 0 ∨ out.getD (out.length - 1) [] ≠ s then out ++ [s] else out
def mg : List Wd → List Wd → List Wd → List Wd
  | [], [], out => out
  | [], y :: b, out => mg [] b (push out y)
  | x :: a, [], out => mg a [] (push out x)
  | x :: a, y :: b, out => if x ≤ y then mg a (y :: b) (push out x) else mg (x :: a) b (push out y)
termination_by a b => a.length + b.length
theorem push_up {out : List Wd} {s : Wd} (h : Up out) (hs : ∀ x ∈ out, x ≤ s) : Up (push out s) ∧ (∀ x, x ∈ push out s ↔ x ∈ out ∨ x = s) ∧ ∀ x ∈ push out s, x ≤ s := by
  unfold push
  by_cases hc : out.length = 0 ∨ out.getD (out.length - 1) [] ≠ s
  · rw [if_pos hc]
    refine ⟨List.pairwise_append.2 ⟨h, by simp, fun x hx y hy => ?_⟩, fun x => by simp, fun x hx => ?_⟩
    · simp only [List.mem_singleton] at hy
      subst hy
      refine wd_lt_of (hs x hx) fun e => ?_
      subst e
      rcases hc with hc | hc
      · have := List.eq_nil_of_length_eq_zero hc
        subst this
        cases hx
      · have hlen : 0 < out.length := List.length_pos_of_mem hx
        obtain ⟨i, hi, hix⟩ := List.mem_iff_getElem.1 hx
        have hl : out.getD (out.length - 1) [] = out[out.length - 1] := by simp [show out.length - 1 < out.length by omega]
        rw [hl] at hc
        by_cases e : i = out.length - 1
        · subst e; exact hc hix
        · have h1 := List.pairwise_iff_getElem.1 h i (out.length - 1) hi (by omega) (by omega)
          rw [hix] at h1
          exact hc (List.le_antisymm (hs _ (List.getElem_mem _)) (List.le_of_lt h1))
    · rcases List.mem_append.1 hx with hx | hx
      · exact hs x hx
      · simp only [List.mem_singleton] at hx
        subst hx
        exact List.le_refl _
  · rw [if_neg hc]
    refine ⟨h, fun x => ⟨.inl, ?_⟩, hs⟩
    rintro (hx | rfl)
    · exact hx
    · simp only [not_or, Decidable.not_not] at hc
      have hl : out.getD (out.length - 1) [] = out[out.length - 1]'(by omega) := by simp [show out.length - 1 < out.length by omega]
      rw [← hc.2, hl]
      exact List.getElem_mem _
theorem mg_up (a b out : List Wd) (ha : Up a) (hb : Up b) (ho : Up out) (h1 : ∀ x ∈ out, ∀ y ∈ a, x ≤ y) (h2 : ∀ x ∈ out, ∀ y ∈ b, x ≤ y) : Up (mg a b out) ∧ ∀ x, x ∈ mg a b out ↔ x ∈ out ∨ x ∈ a ∨ x ∈ b := by
  match a, b with
  | [], [] =>
    unfold mg
    exact ⟨ho, fun x => by simp⟩
  | [], y :: b =>
    unfold mg
    obtain ⟨k1, k2⟩ := List.pairwise_cons.1 hb
    obtain ⟨p1, p2, p3⟩ := push_up ho fun x hx => h2 x hx y (by simp)
    obtain ⟨q1, q2⟩ := mg_up [] b (push out y) ha k2 p1 (fun x hx z hz => by cases hz) fun x hx z hz => wd_le_trans (p3 x hx) (List.le_of_lt (k1 z hz))
    refine ⟨q1, fun x => ?_⟩
    rw [q2 x, p2 x]
    simp only [List.not_mem_nil, false_or, List.mem_cons]
    exact or_assoc
  | x :: a, [] =>
    unfold mg
    obtain ⟨k1, k2⟩ := List.pairwise_cons.1 ha
    obtain ⟨p1, p2, p3⟩ := push_up ho fun z hz => h1 z hz x (by simp)
    obtain ⟨q1, q2⟩ := mg_up a [] (push out x) k2 hb p1 (fun z hz y hy => wd_le_trans (p3 z hz) (List.le_of_lt (k1 y hy))) fun x hx z hz => by cases hz
    refine ⟨q1, fun z => ?_⟩
    rw [q2 z, p2 z]
    simp only [List.not_mem_nil, or_false, List.mem_cons]
    exact or_assoc
  | x :: a, y :: b =>
    unfold mg
    obtain ⟨k1, k2⟩ := List.pairwise_cons.1 ha
    obtain ⟨l1, l2⟩ := List.pairwise_cons.1 hb
    by_cases hxy : x ≤ y
    · rw [if_pos hxy]
      obtain ⟨p1, p2, p3⟩ := push_up ho fun z hz => h1 z hz x (by simp)
      obtain ⟨q1, q2⟩ := mg_up a (y :: b) (push out x) k2 hb p1 (fun z hz t ht => wd_le_trans (p3 z hz) (List.le_of_lt (k1 t ht))) (fun z hz t ht => by
        rcases List.mem_cons.1 ht with rfl | ht
        · exact wd_le_trans (p3 z hz) hxy
        · exact wd_le_trans (wd_le_trans (p3 z hz) hxy) (List.le_of_lt (l1 t ht)))
      refine ⟨q1, fun z => ?_⟩
      rw [q2 z, p2 z]
      simp only [List.mem_cons]
      constructor
      · rintro ((h | h) | h | h) <;> simp [h]
      · rintro (h | (h | h) | h) <;> simp [h]
    · rw [if_neg hxy]
      have hyx : y ≤ x := (wd_total x y).resolve_left hxy
      obtain ⟨p1, p2, p3⟩ := push_up ho fun z hz => h2 z hz y (by simp)
      obtain ⟨q1, q2⟩ := mg_up (x :: a) b (push out y) ha l2 p1 (fun z hz t ht => by
        rcases List.mem_cons.1 ht with rfl | ht
        · exact wd_le_trans (p3 z hz) hyx
        · exact wd_le_trans (wd_le_trans (p3 z hz) hyx) (List.le_of_lt (k1 t ht))) (fun z hz t ht => wd_le_trans (p3 z hz) (List.le_of_lt (l1 t ht)))
      refine ⟨q1, fun z => ?_⟩
      rw [q2 z, p2 z]
      simp only [List.mem_cons]
      constructor
      · rintro ((h | h) | (h | h) | h) <;> simp [h]
      · rintro (h | (h | h) | h | h) <;> simp [h]
termination_by a.length + b.length
theorem mg_ups (l m : List Wd) : mg (ups l) (ups m) [] = ups (l ++ m) := by
  obtain ⟨a1, a2⟩ := ups_up l
  obtain ⟨b1, b2⟩ := ups_up m
  obtain ⟨c1, c2⟩ := ups_up (l ++ m)
  obtain ⟨d1, d2⟩ := mg_up (ups l) (ups m) [] a1 b1 (by simp [Up]) (fun x hx => by cases hx) (fun x hx => by cases hx)
  refine Up.ext d1 c1 fun x => ?_
  rw [d2, c2, a2, b2]
  simp
theorem ups_short {l : List Wd} (h : l.length < 2) : ups l = l := by
  obtain ⟨c1, c2⟩ := ups_up l
  refine Up.ext c1 ?_ c2
  match l, h with
  | [], _ => simp [Up]
  | [x], _ => simp [Up]
theorem ups_len (l : List Wd) : (ups l).length ≤ l.length := by
  unfold ups
  exact Nat.le_trans (compact_len _) (by rw [List.length_mergeSort]; exact Nat.le_refl _)
theorem getW {l : List Wd} {i : Nat} (h : i < l.length) : (l.map S1).getD i [] = [.s l[i]] := by
  rw [map_getD h]
  rfl
theorem wd_leD {x y : Wd} : (Op.bytesLess x y || x == y) = decide (x ≤ y) := wd_le
theorem push_nil (s : Wd) : push [] s = [s] := rfl
theorem push_same {out : List Wd} {s : Wd} (h : 0 < out.length) (hs : out[out.length - 1]'(by omega) = s) : push out s = out := by
  unfold push
  have : out.getD (out.length - 1) [] = s := by rw [← hs, List.getD_eq_getElem?_getD, List.getElem?_eq_getElem (by omega)]; rfl
  rw [if_neg]
  rw [this]
  simp
  intro e
  rw [e] at h
  simp at h
theorem push_new {out : List Wd} {s : Wd} (h : 0 < out.length) (hs : out[out.length - 1]'(by omega) ≠ s) : push out s = out ++ [s] := by
  unfold push
  have : out.getD (out.length - 1) [] = out[out.length - 1]'(by omega) := by rw [List.getD_eq_getElem?_getD, List.getElem?_eq_getElem (by omega)]; rfl
  rw [if_pos (.inr (by rw [this]; exact hs))]
theorem push_len (out : List Wd) (s : Wd) : (push out s).length ≤ out.length + 1 := by
  unfold push
  split <;> simp
theorem sort_loop (A B : List Wd) (hA : A.length ≤ 1048576) (hB : B.length ≤ 1048576) : ∀ (m i k : Nat) (out : List Wd), (A.length - i) + (B.length - k) ≤ m → i ≤ A.length → k ≤ B.length → out.length ≤ i + k →
    Loop E_spec_l18SortedL1 [.sl (A.map S1), .sl (B.map S1), .sl (out.map S1), .i (i : Int), .i (k : Int)] = .ex 0 [.sl ((mg (A.drop i) (B.drop k) out).map S1)] := by
  intro m
  induction m with
  | zero =>
    intro i k out hm hi hk ho
    have h1 : i = A.length := by omega
    have h2 : k = B.length := by omega
    subst h1 h2
    rw [List.drop_length, List.drop_length]
    unfold mg
    exact Loop_ex (by simp [E_spec_l18SortedL1, Out.andThen, DC.bb_b, DC.ii_i, DC.ll_sl])
  | succ m ih =>
    intro i k out hm hi hk ho
    have wl : 0 < out.length → IntKind.i64.wrap ((out.length : Int) - 1) = ((out.length - 1 : Nat) : Int) := fun h => by rw [wrap64 (by omega) (by omega)]; omega
    have hLIM : out.length + 1 < LIM := by unfold LIM; omega
    have takeA : ∀ (h : i < A.length), (∀ k2 : k < B.length, A[i] ≤ B[k]) → Loop E_spec_l18SortedL1 [.sl (A.map S1), .sl (B.map S1), .sl (out.map S1), .i (i : Int), .i (k : Int)] = Loop E_spec_l18SortedL1 [.sl (A.map S1), .sl (B.map S1), .sl ((push out A[i]).map S1), .i ((i + 1 : Nat) : Int), .i (k : Int)] := by
      intro h hle
      refine Loop_norm ?_
      have hc1 : (i : Int) < (A.length : Int) := by omega
      have ws := wrap_succ h (show A.length ≤ 9223372036854775807 by omega)
      have hpre : ∀ K : List DC → Out, Out.andThen (if (decide ((k : Int) ≥ (B.length : Int))) = true then Out.norm [.sl (A.map S1), .sl (B.map S1), .sl (out.map S1), .i (i : Int), .i (k : Int), .b true] else if (decide ((i : Int) < (A.length : Int))) = true then
          (if 0 ≤ (i : Int) ∧ (i : Int) < (A.length : Int) then (if 0 ≤ (k : Int) ∧ (k : Int) < (B.length : Int) then Out.norm [.sl (A.map S1), .sl (B.map S1), .sl (out.map S1), .i (i : Int), .i (k : Int), .b (Op.bytesLess ((((A.map S1).getD i []).getD 0 d0).ss) ((((B.map S1).getD k []).getD 0 d0).ss) || (((A.map S1).getD i []).getD 0 d0).ss == (((B.map S1).getD k []).getD 0 d0).ss)] else .fail) else .fail) else .norm [.sl (A.map S1), .sl (B.map S1), .sl (out.map S1), .i (i : Int), .i (k : Int), .b false]) K
          = K [.sl (A.map S1), .sl (B.map S1), .sl (out.map S1), .i (i : Int), .i (k : Int), .b true] := by
        intro K
        by_cases hk2 : k < B.length
        · have e1 : ¬ ((k : Int) ≥ (B.length : Int)) := by omega
          have e2 : (k : Int) < (B.length : Int) := by omega
          simp only [e1, decide_false, Bool.false_eq_true, if_false, hc1, decide_true, if_true]
          rw [if_pos ⟨by omega, trivial⟩, if_pos ⟨by omega, e2⟩, getW h, getW hk2]
          simp only [List.getD_cons_zero, DC.ss_s, wd_leD, hle hk2, decide_true]
          rfl
        · have e1 : ((k : Int) ≥ (B.length : Int)) := by omega
          simp only [e1, decide_true, if_true]
          rfl
      simp only [E_spec_l18SortedL1, List.getD_cons_zero, List.getD_cons_succ, DC.bb_b, DC.ii_i, DC.ss_s, DC.ll_sl, Int.toNat_natCast, List.length_map, hc1, decide_true, if_true, eq_self, true_and]
      rw [show ∀ (v : List DC) (K : List DC → Out), Out.andThen (.norm v) K = K v from fun _ _ => rfl]
      simp only [List.getD_cons_zero, List.getD_cons_succ, DC.bb_b, DC.ii_i, DC.ss_s, DC.ll_sl, Int.toNat_natCast, List.length_map, if_true]
      rw [hpre]
      simp only [List.getD_cons_zero, List.getD_cons_succ, DC.bb_b, DC.ii_i, DC.ss_s, DC.ll_sl, Int.toNat_natCast, List.length_map, if_true, hc1, and_true]
      rw [if_pos (by omega), getW h, ws]
      by_cases h0 : 0 < out.length
      · have hne : ((out.length : Int) == 0) = false := beq_eq_false_iff_ne.2 (by omega)
        have hlt : out.length - 1 < out.length := by omega
        by_cases hs : out[out.length - 1]'(by omega) = A[i]
        · rw [push_same h0 hs]
          have hg : out[out.length - 1]? = some (out[out.length - 1]'hlt) := List.getElem?_eq_getElem hlt
          have hs' : (S1 (out[out.length - 1]'hlt)) = [DC.s (out[out.length - 1]'hlt)] := rfl
          simp [Out.andThen, Out.andThenB, DC.bb_b, DC.ii_i, DC.ss_s, DC.ll_sl, hne, wl h0, hg, h0, hlt, S1, hs, show out ≠ [] from by rintro rfl; simp at h0]
        · rw [push_new h0 hs]
          have hg : out[out.length - 1]? = some (out[out.length - 1]'hlt) := List.getElem?_eq_getElem hlt
          simp [Out.andThen, Out.andThenB, DC.bb_b, DC.ii_i, DC.ss_s, DC.ll_sl, hne, wl h0, hg, h0, hlt, S1, hs, hLIM, show out ≠ [] from by rintro rfl; simp at h0]
      · have he : out = [] := List.eq_nil_of_length_eq_zero (by omega)
        subst he
        rw [push_nil]
        simp [Out.andThen, Out.andThenB, DC.bb_b, DC.ii_i, DC.ss_s, DC.ll_sl, S1, LIM]
    have takeB : ∀ (h : k < B.length), (∀ k2 : i < A.length, ¬ A[i] ≤ B[k]) → Loop E_spec_l18SortedL1 [.sl (A.map S1), .sl (B.map S1), .sl (out.map S1), .i (i : Int), .i (k : Int)] = Loop E_spec_l18SortedL1 [.sl (A.map S1), .sl (B.map S1), .sl ((push out B[k]).map S1), .i (i : Int), .i ((k + 1 : Nat) : Int)] := by
      intro h hle
      refine Loop_norm ?_
      have hc1 : (k : Int) < (B.length : Int) := by omega
      have hc2 : ¬ ((k : Int) ≥ (B.length : Int)) := by omega
      have ws := wrap_succ h (show B.length ≤ 9223372036854775807 by omega)
      have hpre0 : ∀ K : List DC → Out, Out.andThen (if (decide ((i : Int) < (A.length : Int))) = true then Out.norm [.sl (A.map S1), .sl (B.map S1), .sl (out.map S1), .i (i : Int), .i (k : Int), .b true] else .norm [.sl (A.map S1), .sl (B.map S1), .sl (out.map S1), .i (i : Int), .i (k : Int), .b (decide ((k : Int) < (B.length : Int)))]) K
          = K [.sl (A.map S1), .sl (B.map S1), .sl (out.map S1), .i (i : Int), .i (k : Int), .b true] := fun K => by
        simp only [hc1, decide_true]
        split <;> rfl
      have hpre : ∀ K : List DC → Out, Out.andThen (if (decide ((i : Int) < (A.length : Int))) = true then
          (if 0 ≤ (i : Int) ∧ (i : Int) < (A.length : Int) then (if 0 ≤ (k : Int) ∧ (k : Int) < (B.length : Int) then Out.norm [.sl (A.map S1), .sl (B.map S1), .sl (out.map S1), .i (i : Int), .i (k : Int), .b (Op.bytesLess ((((A.map S1).getD i []).getD 0 d0).ss) ((((B.map S1).getD k []).getD 0 d0).ss) || (((A.map S1).getD i []).getD 0 d0).ss == (((B.map S1).getD k []).getD 0 d0).ss)] else .fail) else .fail) else .norm [.sl (A.map S1), .sl (B.map S1), .sl (out.map S1), .i (i : Int), .i (k : Int), .b false]) K
          = K [.sl (A.map S1), .sl (B.map S1), .sl (out.map S1), .i (i : Int), .i (k : Int), .b false] := by
        intro K
        by_cases hk2 : i < A.length
        · have e2 : (i : Int) < (A.length : Int) := by omega
          simp only [e2, decide_true, if_true]
          rw [if_pos ⟨by omega, trivial⟩, if_pos ⟨by omega, hc1⟩, getW h, getW hk2]
          simp only [List.getD_cons_zero, DC.ss_s, wd_leD, hle hk2, decide_false]
          rfl
        · have e1 : ¬ ((i : Int) < (A.length : Int)) := by omega
          simp only [e1, decide_false, Bool.false_eq_true, if_false]
          rfl
      simp only [E_spec_l18SortedL1, List.getD_cons_zero, List.getD_cons_succ, DC.bb_b, DC.ii_i, DC.ss_s, DC.ll_sl, Int.toNat_natCast, List.length_map, eq_self, true_and]
      rw [hpre0]
      simp only [List.getD_cons_zero, List.getD_cons_succ, DC.bb_b, DC.ii_i, DC.ss_s, DC.ll_sl, Int.toNat_natCast, List.length_map, if_true, hc2, decide_false, Bool.false_eq_true, if_false]
      rw [hpre]
      simp only [List.getD_cons_zero, List.getD_cons_succ, DC.bb_b, DC.ii_i, DC.ss_s, DC.ll_sl, Int.toNat_natCast, List.length_map, Bool.false_eq_true, if_false, hc1, and_true]
      rw [if_pos (by omega), getW h, ws]
      by_cases h0 : 0 < out.length
      · have hne : ((out.length : Int) == 0) = false := beq_eq_false_iff_ne.2 (by omega)
        have hlt : out.length - 1 < out.length := by omega
        by_cases hs : out[out.length - 1]'(by omega) = B[k]
        · rw [push_same h0 hs]
          have hg : out[out.length - 1]? = some (out[out.length - 1]'hlt) := List.getElem?_eq_getElem hlt
          have hs' : (S1 (out[out.length - 1]'hlt)) = [DC.s (out[out.length - 1]'hlt)] := rfl
          simp [Out.andThen, Out.andThenB, DC.bb_b, DC.ii_i, DC.ss_s, DC.ll_sl, hne, wl h0, hg, h0, hlt, S1, hs, show out ≠ [] from by rintro rfl; simp at h0]
        · rw [push_new h0 hs]
          have hg : out[out.length - 1]? = some (out[out.length - 1]'hlt) := List.getElem?_eq_getElem hlt
          simp [Out.andThen, Out.andThenB, DC.bb_b, DC.ii_i, DC.ss_s, DC.ll_sl, hne, wl h0, hg, h0, hlt, S1, hs, hLIM, show out ≠ [] from by rintro rfl; simp at h0]
      · have he : out = [] := List.eq_nil_of_length_eq_zero (by omega)
        subst he
        rw [push_nil]
        simp [Out.andThen, Out.andThenB, DC.bb_b, DC.ii_i, DC.ss_s, DC.ll_sl, S1, LIM]
    by_cases h1 : i < A.length
    · by_cases h2 : k < B.length
      · by_cases hle : A[i] ≤ B[k]
        · rw [takeA h1 fun _ => hle, ih (i + 1) k _ (by omega) (by omega) hk (by have := push_len out A[i]; omega)]
          conv => rhs; rw [List.drop_eq_getElem_cons h1, List.drop_eq_getElem_cons h2]; unfold mg
          rw [if_pos hle, ← List.drop_eq_getElem_cons h2]
        · rw [takeB h2 fun _ => hle, ih i (k + 1) _ (by omega) hi (by omega) (by have := push_len out B[k]; omega)]
          conv => rhs; rw [List.drop_eq_getElem_cons h1, List.drop_eq_getElem_cons h2]; unfold mg
          rw [if_neg hle, ← List.drop_eq_getElem_cons h1]
      · rw [takeA h1 fun h => absurd h h2, ih (i + 1) k _ (by omega) (by omega) hk (by have := push_len out A[i]; omega)]
        have : B.drop k = [] := List.drop_of_length_le (by omega)
        rw [this]
        conv => rhs; rw [List.drop_eq_getElem_cons h1]; unfold mg
    · have hd : A.drop i = [] := List.drop_of_length_le (by omega)
      by_cases h2 : k < B.length
      · rw [takeB h2 fun h => absurd h h1, ih i (k + 1) _ (by omega) hi (by omega) (by have := push_len out B[k]; omega), hd]
        conv => rhs; rw [List.drop_eq_getElem_cons h2]; unfold mg
      · have hd2 : B.drop k = [] := List.drop_of_length_le (by omega)
        have e1 : i = A.length := by omega
        have e2 : k = B.length := by omega
        subst e1 e2
        rw [hd, hd2]
        unfold mg
        exact Loop_ex (by simp [E_spec_l18SortedL1, Out.andThen, DC.bb_b, DC.ii_i, DC.ll_sl])
theorem spec_sorted : ∀ (m : Nat) (l : List Wd), l.length ≤ m → l.length ≤ 1048576 → r_spec_l18Sorted [.sl (l.map S1)] = .ret [.sl ((ups l).map S1)] := by
  intro m
  induction m with
  | zero =>
    intro l hl _
    have : l = [] := List.eq_nil_of_length_eq_zero (by omega)
    subst this
    rw [eq_spec_l18Sorted, ups_short (by simp)]
    simp [E_spec_l18Sorted, DC.ll_sl, LIM]
  | succ m ih =>
    intro l hl hlim
    rw [eq_spec_l18Sorted]
    simp only [E_spec_l18Sorted, List.getD_cons_zero, DC.ll_sl, List.length_map]
    by_cases h2 : l.length < 2
    · have h2' : (l.length : Int) < 2 := by omega
      have hL : ([] : List (List DC)).length + l.length < LIM := by unfold LIM; simp; omega
      simp only [h2', decide_true, if_true]
      rw [if_pos hL, List.nil_append, ups_short h2]
    · have h2' : ¬ (l.length : Int) < 2 := by omega
      have hd : (l.length : Int).tdiv 2 = ((l.length / 2 : Nat) : Int) := by
        rw [Int.tdiv_eq_ediv_of_nonneg (by omega)]
        omega
      have hw : IntKind.i64.wrap ((l.length : Int).tdiv 2) = ((l.length / 2 : Nat) : Int) := by rw [hd]; exact wrap64 (by omega) (by omega)
      have h22 : ¬ ((2 : Int) = 0) := by decide
      have hle : ((l.length / 2 : Nat) : Int) ≤ (l.length : Int) := by omega
      simp only [h2', decide_false, Bool.false_eq_true, if_false, h22, hw, Int.toNat_natCast, ← List.map_take, ← List.map_drop]
      rw [if_pos ⟨by omega, hle⟩, ih (l.take (l.length / 2)) (by rw [List.length_take]; omega) (by rw [List.length_take]; omega)]
      simp only [Out.bindR_ret]
      rw [ih (l.drop (l.length / 2)) (by rw [List.length_drop]; omega) (by rw [List.length_drop]; omega)]
      have u1 := ups_len (l.take (l.length / 2))
      have u2 := ups_len (l.drop (l.length / 2))
      rw [List.length_take] at u1
      rw [List.length_drop] at u2
      have hlp := sort_loop (ups (l.take (l.length / 2))) (ups (l.drop (l.length / 2))) (by omega) (by omega) _ 0 0 [] (Nat.le_refl _) (by omega) (by omega) (by simp)
      simp only [List.drop_zero, mg_ups, List.take_append_drop] at hlp
      have hlp' : Loop E_spec_l18SortedL1 [.sl ((ups (l.take (l.length / 2))).map S1), .sl ((ups (l.drop (l.length / 2))).map S1), .sl [], .i (0 : Int), .i (0 : Int)] = .ex 0 [.sl ((ups l).map S1)] := hlp
      simp only [Out.bindR_ret, List.getD_cons_zero, DC.ll_sl, hlp']
      rw [if_pos ⟨by omega, hle⟩]
      simp [Out.andThenB, DC.ll_sl]
def mayBe (K : Int) (F : List Wd) (n : Wd) (x : TDef) : Bool := (x.kind == 2) && (if K = 2 then x.name == n else if K = 3 then x.faces.any (· == n) else if K = 4 then F.any (· == x.name) else false)
def mays (K : Int) (F : List Wd) (n : Wd) (l : List TDef) : List Wd := l.flatMap fun x => if mayBe K F n x = true then [x.name] else []
theorem mays_len (K : Int) (F : List Wd) (n : Wd) : ∀ l : List TDef, (mays K F n l).length ≤ l.length
  | [] => Nat.le_refl _
  | x :: l => by
    have := mays_len K F n l
    simp only [mays, List.flatMap_cons, List.length_append, List.length_cons] at this ⊢
    have h1 : (if mayBe K F n x = true then [x.name] else []).length ≤ 1 := by split <;> simp
    omega
theorem mays_take {K : Int} {F : List Wd} {n : Wd} {l : List TDef} {j : Nat} (h : j < l.length) : mays K F n (l.take (j + 1)) = mays K F n (l.take j) ++ (if mayBe K F n (l[j]'h) = true then [(l[j]'h).name] else []) := by
  rw [List.take_succ_eq_append_getElem h, mays, List.flatMap_append]
  simp [mays]
def posOf (l : List TDef) (n : Wd) : List Wd := match defOf l n with
  | some t => ups (mays t.kind t.faces n l)
  | none => []
set_option maxHeartbeats 1600000 in
theorem spec_PossibleOf (l : List TDef) (d r : List (List DC)) (n : Wd) (hw : DC.wt (.sl (l.map TDef.enc)) ≤ 1048576) : r_spec_PossibleOf [.sl (l.map TDef.enc), .sl d, .sl r, .s n] = .ret [.sl ((posOf l n).map S1)] := by
  have hl := defs_len hw
  have hat := spec_TypeAt l d r n hl
  rw [eq_spec_PossibleOf]
  simp only [E_spec_PossibleOf, List.getD_cons_zero, List.getD_cons_succ, DC.bb_b, DC.ii_i, DC.ss_s, DC.ll_sl, hat, Out.bindR_ret, posOf]
  rcases typeAt_cases l n with ⟨h1, h2⟩ | ⟨i, h, h1, h2, _⟩
  · simp [h1, h2]
  · have hi0 : ¬ ((i : Int) < 0) := by omega
    have hic : (i : Int) < (l.length : Int) := by omega
    rw [h2]
    have hfl := faces_len (def_wt hw (List.getElem_mem h))
    simp only [h1, hi0, decide_false, Bool.false_eq_true, if_false, Int.toNat_natCast, map_getD h, List.length_map, TDef.enc_eq, List.getD_cons_zero, List.getD_cons_succ, DC.bb_b, DC.ii_i, DC.ss_s, DC.ll_sl]
    generalize l[i]'h = t at *
    rw [if_pos ⟨trivial, by omega, hic⟩]
    have hml := mays_len t.kind t.faces n l
    have hs := spec_sorted _ (mays t.kind t.faces n l) (Nat.le_refl _) (by omega)
    have key := Loop_upto (F := E_spec_PossibleOfL1) (st := fun i => [.s n, .sl ((mays t.kind t.faces n (l.take i)).map S1), .i (i : Int), .sl (l.map TDef.enc), .sl d, .sl r, .i t.kind, .b t.ext, .s t.desc, .s t.name, .sl (t.faces.map S1), .sl (t.fields.map TFieldDef.enc), .sl (t.inputs.map TInDef.enc), .sl (t.values.map TEnumDef.enc), .sl (t.roots.map TRoot.enc), .b t.repeat', .sl (t.dirs.map TDir.enc)])
      (o := .ex 0 [.sl ((mays t.kind t.faces n l).map S1)]) l.length 0 (fun j _ hj => ?step) ?fin
    · have key' : Loop E_spec_PossibleOfL1 [.s n, .sl [], .i (0 : Int), .sl (l.map TDef.enc), .sl d, .sl r, .i t.kind, .b t.ext, .s t.desc, .s t.name, .sl (t.faces.map S1), .sl (t.fields.map TFieldDef.enc), .sl (t.inputs.map TInDef.enc), .sl (t.values.map TEnumDef.enc), .sl (t.roots.map TRoot.enc), .b t.repeat', .sl (t.dirs.map TDir.enc)] = .ex 0 [.sl ((mays t.kind t.faces n l).map S1)] := key
      rw [key']
      simp only [Out.andThenB, if_true, List.getD_cons_zero, DC.ll_sl, hs, Out.bindR_ret]
    case step =>
      have hjl : j < l.length := by omega
      have hc1 : (j : Int) < (l.length : Int) := by omega
      have hxf := faces_len (def_wt hw (List.getElem_mem hjl))
      have hmt := mays_len t.kind t.faces n (l.take j)
      rw [List.length_take] at hmt
      have hL : (mays t.kind t.faces n (l.take j)).length + 1 < LIM := by unfold LIM; omega
      have ws := wrap_succ hjl (show l.length ≤ 9223372036854775807 by omega)
      have e1 := spec_l18Has (l[j]'hjl).faces n hxf
      have e2 := spec_l18Has t.faces (l[j]'hjl).name hfl
      rw [mays_take hjl]
      generalize mays t.kind t.faces n (l.take j) = out at *
      unfold mayBe
      simp only [E_spec_PossibleOfL1, List.getD_cons_zero, List.getD_cons_succ, DC.bb_b, DC.ii_i, DC.ss_s, DC.ll_sl, Int.toNat_natCast, List.length_map, map_getD hjl, TDef.enc_eq, hc1, decide_true, if_true]
      rw [if_pos ⟨trivial, by omega, trivial⟩]
      generalize l[j]'hjl = x at *
      by_cases x2 : x.kind = 2
      · by_cases t2 : t.kind = 2
        · by_cases hn : x.name = n <;> simp [x2, t2, hn, hL, ws, Out.andThen, Out.andThenB, DC.bb_b, DC.ii_i, DC.ss_s, DC.ll_sl, S1]
        · by_cases t3 : t.kind = 3
          · simp only [x2, t2, t3, e1, Out.bindR_ret, List.getD_cons_zero, DC.bb_b]
            cases x.faces.any (· == n) <;> simp [hL, ws, Out.andThen, Out.andThenB, DC.bb_b, DC.ii_i, DC.ss_s, DC.ll_sl, S1]
          · by_cases t4 : t.kind = 4
            · simp only [x2, t2, t3, t4, e2, Out.bindR_ret, List.getD_cons_zero, DC.bb_b]
              cases t.faces.any (· == x.name) <;> simp [hL, ws, Out.andThen, Out.andThenB, DC.bb_b, DC.ii_i, DC.ss_s, DC.ll_sl, S1]
            · simp [x2, t2, t3, t4, hL, ws, Out.andThen, Out.andThenB, DC.bb_b, DC.ii_i, DC.ss_s, DC.ll_sl, S1]
      · simp [x2, ws, Out.andThen, Out.andThenB, DC.bb_b, DC.ii_i, DC.ss_s, DC.ll_sl, S1]
    case fin =>
      refine Loop_ex ?_
      rw [Nat.zero_add, List.take_length]
      simp [E_spec_PossibleOfL1, DC.ii_i, DC.ll_sl]
theorem sort_comp (l : List Wd) : compD (sortD (l.map S1)) = (ups l).map S1 := by
  have h : wordsD (l.map S1) = l := wordsD_dWords l
  unfold compD sortD
  rw [wordsD_dWords, h]
  rfl
theorem sortD_len (l : List Wd) : (sortD (l.map S1)).length = l.length := by
  have h : wordsD (l.map S1) = l := wordsD_dWords l
  unfold sortD
  rw [h]
  simp [dWords]
theorem ups_nil : ups [] = [] := ups_short (by simp)
theorem mays_none (n : Wd) : ∀ l : List TDef, mays 0 [] n l = []
  | [] => rfl
  | x :: l => by
    have := mays_none n l
    simp only [mays, List.flatMap_cons] at this ⊢
    rw [this]
    simp [mayBe]
set_option maxHeartbeats 1600000 in
theorem impl_PossibleOf (l : List TDef) (d r : List (List DC)) (n : Wd) (hw : DC.wt (.sl (l.map TDef.enc)) ≤ 1048576) : r_impl_PossibleOf [.sl (l.map TDef.enc), .sl d, .sl r, .s n] = .ret [.sl ((posOf l n).map S1)] := by
  have hl := defs_len hw
  have htd := impl_typeDef l d r n hl
  have hpos : posOf l n = ups (mays ((defOf l n).getD zDef).kind ((defOf l n).getD zDef).faces n l) := by
    unfold posOf
    cases hd : defOf l n with
    | none =>
      show [] = ups (mays 0 [] n l)
      rw [mays_none, ups_nil]
    | some t => rfl
  have hfl : ((defOf l n).getD zDef).faces.length ≤ 1048576 := by
    cases hd : defOf l n with
    | none => simp [zDef]
    | some t => exact faces_len (def_wt hw (defOf_mem hd))
  rw [eq_impl_PossibleOf, hpos]
  generalize (defOf l n).getD zDef = t at *
  simp only [E_impl_PossibleOf, List.getD_cons_zero, List.getD_cons_succ, DC.bb_b, DC.ii_i, DC.ss_s, DC.ll_sl, htd, TDef.enc_eq, List.cons_append, List.nil_append, Out.bindR_ret, List.length_map]
  have hml := mays_len t.kind t.faces n l
  have key := Loop_upto (F := E_impl_PossibleOfL1) (st := fun i => [.s n, .sl ((mays t.kind t.faces n (l.take i)).map S1), .sl (l.map TDef.enc), .i (l.length : Int), .i (i : Int), .i t.kind, .b t.ext, .s t.desc, .s t.name, .sl (t.faces.map S1), .sl (t.fields.map TFieldDef.enc), .sl (t.inputs.map TInDef.enc), .sl (t.values.map TEnumDef.enc), .sl (t.roots.map TRoot.enc), .b t.repeat', .sl (t.dirs.map TDir.enc)])
    (o := .ex 0 [.sl ((mays t.kind t.faces n l).map S1)]) l.length 0 (fun j _ hj => ?step) ?fin
  · have key' : Loop E_impl_PossibleOfL1 [.s n, .sl [], .sl (l.map TDef.enc), .i (l.length : Int), .i (0 : Int), .i t.kind, .b t.ext, .s t.desc, .s t.name, .sl (t.faces.map S1), .sl (t.fields.map TFieldDef.enc), .sl (t.inputs.map TInDef.enc), .sl (t.values.map TEnumDef.enc), .sl (t.roots.map TRoot.enc), .b t.repeat', .sl (t.dirs.map TDir.enc)] = .ex 0 [.sl ((mays t.kind t.faces n l).map S1)] := key
    rw [key']
    have hL1 : (mays t.kind t.faces n l).length < LIM := by unfold LIM; omega
    simp only [Out.andThenB, if_true, List.getD_cons_zero, DC.ll_sl, List.length_map, sortD_len, hL1, sort_comp]
  case step =>
    have hjl : j < l.length := by omega
    have hc1 : (j : Int) < (l.length : Int) := by omega
    have hxf := faces_len (def_wt hw (List.getElem_mem hjl))
    have hmt := mays_len t.kind t.faces n (l.take j)
    rw [List.length_take] at hmt
    have hL : (mays t.kind t.faces n (l.take j)).length + 1 < LIM := by unfold LIM; omega
    have ws := wrap_succ hjl (show l.length ≤ 9223372036854775807 by omega)
    have e1 := slices_Contains_string (l[j]'hjl).faces n hxf
    have e2 := slices_Contains_string t.faces (l[j]'hjl).name hfl
    rw [mays_take hjl]
    generalize mays t.kind t.faces n (l.take j) = out at *
    unfold mayBe
    simp only [E_impl_PossibleOfL1, List.getD_cons_zero, List.getD_cons_succ, DC.bb_b, DC.ii_i, DC.ss_s, DC.ll_sl, Int.toNat_natCast, List.length_map, map_getD hjl, TDef.enc_eq, hc1, decide_true, if_true]
    rw [if_pos ⟨trivial, by omega, trivial⟩]
    generalize l[j]'hjl = x at *
    by_cases t2 : t.kind = 2
    · by_cases hn : x.name = n <;> by_cases x2 : x.kind = 2 <;> simp [x2, t2, hn, hL, ws, Out.andThen, Out.andThenB, DC.bb_b, DC.ii_i, DC.ss_s, DC.ll_sl, S1]
    · by_cases t3 : t.kind = 3
      · simp only [t2, t3, e1, Out.bindR_ret, List.getD_cons_zero, DC.bb_b]
        by_cases x2 : x.kind = 2 <;> cases x.faces.any (· == n) <;> simp [x2, hL, ws, Out.andThen, Out.andThenB, DC.bb_b, DC.ii_i, DC.ss_s, DC.ll_sl, S1]
      · by_cases t4 : t.kind = 4
        · simp only [t2, t3, t4, e2, Out.bindR_ret, List.getD_cons_zero, DC.bb_b]
          by_cases x2 : x.kind = 2 <;> cases t.faces.any (· == x.name) <;> simp [x2, hL, ws, Out.andThen, Out.andThenB, DC.bb_b, DC.ii_i, DC.ss_s, DC.ll_sl, S1]
        · by_cases x2 : x.kind = 2 <;> simp [x2, t2, t3, t4, hL, ws, Out.andThen, Out.andThenB, DC.bb_b, DC.ii_i, DC.ss_s, DC.ll_sl, S1]
  case fin =>
    refine Loop_ex ?_
    rw [Nat.zero_add, List.take_length]
    simp [E_impl_PossibleOfL1, DC.ii_i, DC.ll_sl]
theorem posOf_len (l : List TDef) (n : Wd) : (posOf l n).length ≤ l.length := by
  unfold posOf
  cases defOf l n with
  | none => simp
  | some t => exact Nat.le_trans (ups_len _) (mays_len _ _ _ _)
theorem mh_String (v : (List UInt8)) : ∀ k : Int, 0 ≤ k → k + 30 * ((1 + wtL (S1 v) : Nat) : Int) < 4611686018427387904 → ∃ (x' : (List UInt8)) (k' : Int), (MarkRow mT mTab ms30 S1 v k x' k' ∧ (∀ (l : List (List DC)) (i : Nat), i < l.length → l.length ≤ 9223372036854775807 → l.getD i [] = S1 x' → E_laws_heldStringSL1 [.sl l, .i k, .i (i : Int)] = .norm [.sl l, .i k', .i ((i + 1 : Nat) : Int)])) ∧ k ≤ k' ∧ k' ≤ k + 30 * ((1 + wtL (S1 v) : Nat) : Int) := by
  intro k h0 hk
  refine ⟨mtx (k), k + 1, ⟨⟨0, fun m hm r => ?_⟩, ?_⟩, by omega, by omega⟩
  · refine ⟨r, ?_⟩
    unfold S1
    refine rowActs_txt (s := mtx (k)) rfl (rowActs_inc (by omega) ?_)
    exact rfl
  · intro l i hi hl hg
    have m0 : E_laws_markText [.i (k)] = .ret [.s (mtx (k))] := mtx_eq (by omega) (by omega)
    have w0 : IntKind.i64.wrap (k + 1) = k + 1 := wrap64 (by omega) (by omega)
    have hc1 : (i : Int) < (l.length : Int) := by omega
    simp only [E_laws_heldStringSL1, List.getD_cons_zero, List.getD_cons_succ, DC.bb_b, DC.ii_i, DC.ss_s, DC.ll_sl, Int.toNat_natCast, hg, S1, m0, w0, eq_laws_markText, Out.bindR_ret]
    simp [hi, hc1, wrap_succ hi hl, m0, w0]
theorem mhS_String' (vs : List (List UInt8)) (hs : ∀ v ∈ vs, ∀ k : Int, 0 ≤ k → k + 30 * ((1 + wtL (S1 v) : Nat) : Int) < 4611686018427387904 → ∃ (x' : (List UInt8)) (k' : Int), (MarkRow mT mTab ms30 S1 v k x' k' ∧ (∀ (l : List (List DC)) (i : Nat), i < l.length → l.length ≤ 9223372036854775807 → l.getD i [] = S1 x' → E_laws_heldStringSL1 [.sl l, .i k, .i (i : Int)] = .norm [.sl l, .i k', .i ((i + 1 : Nat) : Int)])) ∧ k ≤ k' ∧ k' ≤ k + 30 * ((1 + wtL (S1 v) : Nat) : Int)) (k : Int) (h0 : 0 ≤ k) (hk : k + 30 * ((DC.wt (.sl (vs.map S1)) : Nat) : Int) < 4611686018427387904) : ∃ (vs' : List (List UInt8)) (k' : Int), Mk mT mTab 30 (vs.map S1) k (vs'.map S1) k' ∧ k ≤ k' ∧ k' ≤ k + 30 * ((DC.wt (.sl (vs.map S1)) : Nat) : Int) ∧ r_laws_heldStringS [.sl (vs'.map S1), .i k] = .ret [.i k'] := by
  obtain ⟨vs', k', m, b1, b2, c⟩ := mark_all (Q := fun k x' k' => ∀ (l : List (List DC)) (i : Nat), i < l.length → l.length ≤ 9223372036854775807 → l.getD i [] = S1 x' → E_laws_heldStringSL1 [.sl l, .i k, .i (i : Int)] = .norm [.sl l, .i k', .i ((i + 1 : Nat) : Int)]) (f := 30) (ms := ms30) rfl vs hs h0 hk
  refine ⟨vs', k', m, b1, b2, ?_⟩
  have hl : vs.length ≤ DC.wt (.sl (vs.map S1)) := by simp [DC.wt]
  have hc := c.len
  have key : Loop E_laws_heldStringSL1 [.sl (vs'.map S1), .i k, .i (0 : Int)] = .ex 0 [.i k'] := held_loop c (fun l k => by simp [E_laws_heldStringSL1]) [] (by simp only [List.length_nil]; omega)
  rw [eq_laws_heldStringS]
  simp only [E_laws_heldStringS, List.getD_cons_zero, List.getD_cons_succ, DC.bb_b, DC.ii_i, DC.ss_s, DC.ll_sl, key, Out.andThenB]
  rfl
theorem mhS_String (vs : List (List UInt8)) (k : Int) (h0 : 0 ≤ k) (hk : k + 30 * ((DC.wt (.sl (vs.map S1)) : Nat) : Int) < 4611686018427387904) : ∃ (vs' : List (List UInt8)) (k' : Int), Mk mT mTab 30 (vs.map S1) k (vs'.map S1) k' ∧ k ≤ k' ∧ k' ≤ k + 30 * ((DC.wt (.sl (vs.map S1)) : Nat) : Int) ∧ r_laws_heldStringS [.sl (vs'.map S1), .i k] = .ret [.i k'] := mhS_String' vs (fun v _ => mh_String v) k h0 hk
theorem mhS_Value' (vs : List TValue) (hs : ∀ v ∈ vs, ∀ k : Int, 0 ≤ k → k + 30 * ((1 + wtL (TValue.enc v) : Nat) : Int) < 4611686018427387904 → ∃ (x' : TValue) (k' : Int), (MarkRow mT mTab ms99 TValue.enc v k x' k' ∧ (True)) ∧ k ≤ k' ∧ k' ≤ k + 30 * ((1 + wtL (TValue.enc v) : Nat) : Int)) (k : Int) (h0 : 0 ≤ k) (hk : k + 30 * ((DC.wt (.sl (vs.map TValue.enc)) : Nat) : Int) < 4611686018427387904) : ∃ (vs' : List TValue) (k' : Int), Mk mT mTab 99 (vs.map TValue.enc) k (vs'.map TValue.enc) k' ∧ k ≤ k' ∧ k' ≤ k + 30 * ((DC.wt (.sl (vs.map TValue.enc)) : Nat) : Int) ∧ True := by
  obtain ⟨vs', k', m, b1, b2, c⟩ := mark_all (Q := fun k x' k' => True) (f := 99) (ms := ms99) rfl vs hs h0 hk
  exact ⟨vs', k', m, b1, b2, trivial⟩
theorem mh_Value (v : TValue) : ∀ k : Int, 0 ≤ k → k + 30 * ((1 + wtL (TValue.enc v) : Nat) : Int) < 4611686018427387904 → ∃ (x' : TValue) (k' : Int), (MarkRow mT mTab ms99 TValue.enc v k x' k' ∧ (True)) ∧ k ≤ k' ∧ k' ≤ k + 30 * ((1 + wtL (TValue.enc v) : Nat) : Int) := by
  induction v using TValue.ind with | h v ih =>
  intro k h0 hk
  rw [wsum_Value] at hk
  rw [wsum_Value]
  obtain ⟨a2, k2, ⟨n2, e2⟩, b2, c2, h2⟩ := mhS_Value' v.items (fun x hx => ih x hx) (k + 1 + 1) (by omega) (by omega)
  obtain ⟨a3, k3, ⟨n3, e3⟩, b3, c3, h3⟩ := mhS_String v.names (k2) (by omega) (by omega)
  refine ⟨⟨k, mtx (k + 1), a2, a3⟩, k3, ⟨⟨n2 + n3, fun m hm r => ?_⟩, ?_⟩, by omega, by omega⟩
  · refine ⟨k3, ?_⟩
    rw [TValue.enc_eq, TValue.enc_eq]
    refine rowActs_int (rowActs_inc (by omega) ?_)
    refine rowActs_txt (s := mtx (k + 1)) rfl (rowActs_inc (by omega) ?_)
    refine rowActs_sub (l := v.items.map TValue.enc) rfl (mkF_up (by omega) e2) (rowActs_upd ⟨by omega, by omega⟩ ?_)
    refine rowActs_sub (l := v.names.map S1) rfl (mkF_up (by omega) e3) (rowActs_upd ⟨by omega, by omega⟩ ?_)
    exact rfl
  · trivial
theorem mhS_Value (vs : List TValue) (k : Int) (h0 : 0 ≤ k) (hk : k + 30 * ((DC.wt (.sl (vs.map TValue.enc)) : Nat) : Int) < 4611686018427387904) : ∃ (vs' : List TValue) (k' : Int), Mk mT mTab 99 (vs.map TValue.enc) k (vs'.map TValue.enc) k' ∧ k ≤ k' ∧ k' ≤ k + 30 * ((DC.wt (.sl (vs.map TValue.enc)) : Nat) : Int) ∧ True := mhS_Value' vs (fun v _ => mh_Value v) k h0 hk
theorem mh_Arg (v : TArg) : ∀ k : Int, 0 ≤ k → k + 30 * ((1 + wtL (TArg.enc v) : Nat) : Int) < 4611686018427387904 → ∃ (x' : TArg) (k' : Int), (MarkRow mT mTab ms100 TArg.enc v k x' k' ∧ (True)) ∧ k ≤ k' ∧ k' ≤ k + 30 * ((1 + wtL (TArg.enc v) : Nat) : Int) := by
  intro k h0 hk
  rw [wsum_Arg, wsum_Value] at hk
  rw [wsum_Arg, wsum_Value]
  obtain ⟨a3, k3, ⟨n3, e3⟩, b3, c3, h3⟩ := mhS_Value v.value.items (k + 1 + 1 + 1) (by omega) (by omega)
  obtain ⟨a4, k4, ⟨n4, e4⟩, b4, c4, h4⟩ := mhS_String v.value.names (k3) (by omega) (by omega)
  refine ⟨⟨mtx (k), ⟨k + 1, mtx (k + 1 + 1), a3, a4⟩⟩, k4, ⟨⟨n3 + n4, fun m hm r => ?_⟩, ?_⟩, by omega, by omega⟩
  · refine ⟨k4, ?_⟩
    rw [TArg.enc_eq, TArg.enc_eq]
    refine rowActs_txt (s := mtx (k)) rfl (rowActs_inc (by omega) ?_)
    refine rowActs_int (rowActs_inc (by omega) ?_)
    refine rowActs_txt (s := mtx (k + 1 + 1)) rfl (rowActs_inc (by omega) ?_)
    refine rowActs_sub (l := v.value.items.map TValue.enc) rfl (mkF_up (by omega) e3) (rowActs_upd ⟨by omega, by omega⟩ ?_)
    refine rowActs_sub (l := v.value.names.map S1) rfl (mkF_up (by omega) e4) (rowActs_upd ⟨by omega, by omega⟩ ?_)
    exact rfl
  · trivial
theorem mhS_Arg' (vs : List TArg) (hs : ∀ v ∈ vs, ∀ k : Int, 0 ≤ k → k + 30 * ((1 + wtL (TArg.enc v) : Nat) : Int) < 4611686018427387904 → ∃ (x' : TArg) (k' : Int), (MarkRow mT mTab ms100 TArg.enc v k x' k' ∧ (True)) ∧ k ≤ k' ∧ k' ≤ k + 30 * ((1 + wtL (TArg.enc v) : Nat) : Int)) (k : Int) (h0 : 0 ≤ k) (hk : k + 30 * ((DC.wt (.sl (vs.map TArg.enc)) : Nat) : Int) < 4611686018427387904) : ∃ (vs' : List TArg) (k' : Int), Mk mT mTab 100 (vs.map TArg.enc) k (vs'.map TArg.enc) k' ∧ k ≤ k' ∧ k' ≤ k + 30 * ((DC.wt (.sl (vs.map TArg.enc)) : Nat) : Int) ∧ True := by
  obtain ⟨vs', k', m, b1, b2, c⟩ := mark_all (Q := fun k x' k' => True) (f := 100) (ms := ms100) rfl vs hs h0 hk
  exact ⟨vs', k', m, b1, b2, trivial⟩
theorem mhS_Arg (vs : List TArg) (k : Int) (h0 : 0 ≤ k) (hk : k + 30 * ((DC.wt (.sl (vs.map TArg.enc)) : Nat) : Int) < 4611686018427387904) : ∃ (vs' : List TArg) (k' : Int), Mk mT mTab 100 (vs.map TArg.enc) k (vs'.map TArg.enc) k' ∧ k ≤ k' ∧ k' ≤ k + 30 * ((DC.wt (.sl (vs.map TArg.enc)) : Nat) : Int) ∧ True := mhS_Arg' vs (fun v _ => mh_Arg v) k h0 hk
theorem mh_Dir (v : TDir) : ∀ k : Int, 0 ≤ k → k + 30 * ((1 + wtL (TDir.enc v) : Nat) : Int) < 4611686018427387904 → ∃ (x' : TDir) (k' : Int), (MarkRow mT mTab ms49 TDir.enc v k x' k' ∧ (True)) ∧ k ≤ k' ∧ k' ≤ k + 30 * ((1 + wtL (TDir.enc v) : Nat) : Int) := by
  intro k h0 hk
  rw [wsum_Dir] at hk
  rw [wsum_Dir]
  obtain ⟨a1, k1, ⟨n1, e1⟩, b1, c1, h1⟩ := mhS_Arg v.args (k + 1) (by omega) (by omega)
  refine ⟨⟨mtx (k), a1⟩, k1, ⟨⟨n1, fun m hm r => ?_⟩, ?_⟩, by omega, by omega⟩
  · refine ⟨k1, ?_⟩
    rw [TDir.enc_eq, TDir.enc_eq]
    refine rowActs_txt (s := mtx (k)) rfl (rowActs_inc (by omega) ?_)
    refine rowActs_sub (l := v.args.map TArg.enc) rfl (mkF_up (by omega) e1) (rowActs_upd ⟨by omega, by omega⟩ ?_)
    exact rfl
  · trivial
theorem mhS_Dir' (vs : List TDir) (hs : ∀ v ∈ vs, ∀ k : Int, 0 ≤ k → k + 30 * ((1 + wtL (TDir.enc v) : Nat) : Int) < 4611686018427387904 → ∃ (x' : TDir) (k' : Int), (MarkRow mT mTab ms49 TDir.enc v k x' k' ∧ (True)) ∧ k ≤ k' ∧ k' ≤ k + 30 * ((1 + wtL (TDir.enc v) : Nat) : Int)) (k : Int) (h0 : 0 ≤ k) (hk : k + 30 * ((DC.wt (.sl (vs.map TDir.enc)) : Nat) : Int) < 4611686018427387904) : ∃ (vs' : List TDir) (k' : Int), Mk mT mTab 49 (vs.map TDir.enc) k (vs'.map TDir.enc) k' ∧ k ≤ k' ∧ k' ≤ k + 30 * ((DC.wt (.sl (vs.map TDir.enc)) : Nat) : Int) ∧ True := by
  obtain ⟨vs', k', m, b1, b2, c⟩ := mark_all (Q := fun k x' k' => True) (f := 49) (ms := ms49) rfl vs hs h0 hk
  exact ⟨vs', k', m, b1, b2, trivial⟩
theorem mhS_Dir (vs : List TDir) (k : Int) (h0 : 0 ≤ k) (hk : k + 30 * ((DC.wt (.sl (vs.map TDir.enc)) : Nat) : Int) < 4611686018427387904) : ∃ (vs' : List TDir) (k' : Int), Mk mT mTab 49 (vs.map TDir.enc) k (vs'.map TDir.enc) k' ∧ k ≤ k' ∧ k' ≤ k + 30 * ((DC.wt (.sl (vs.map TDir.enc)) : Nat) : Int) ∧ True := mhS_Dir' vs (fun v _ => mh_Dir v) k h0 hk
theorem mh_InDef (v : TInDef) : ∀ k : Int, 0 ≤ k → k + 30 * ((1 + wtL (TInDef.enc v) : Nat) : Int) < 4611686018427387904 → ∃ (x' : TInDef) (k' : Int), (MarkRow mT mTab ms48 TInDef.enc v k x' k' ∧ (True)) ∧ k ≤ k' ∧ k' ≤ k + 30 * ((1 + wtL (TInDef.enc v) : Nat) : Int) := by
  intro k h0 hk
  rw [wsum_InDef, wsum_Type, wsum_Value] at hk
  rw [wsum_InDef, wsum_Type, wsum_Value]
  obtain ⟨a7, k7, ⟨n7, e7⟩, b7, c7, h7⟩ := mhS_Value v.default'.items (k + 1 + 1 + 1 + 1 + 1 + 1 + 1) (by omega) (by omega)
  obtain ⟨a8, k8, ⟨n8, e8⟩, b8, c8, h8⟩ := mhS_String v.default'.names (k7) (by omega) (by omega)
  obtain ⟨a9, k9, ⟨n9, e9⟩, b9, c9, h9⟩ := mhS_Dir v.dirs (k8) (by omega) (by omega)
  refine ⟨⟨mtx (k), mtx (k + 1), ⟨mtx (k + 1 + 1), mtx (k + 1 + 1 + 1)⟩, (k + 1 + 1 + 1 + 1) % 3 == 0, ⟨k + 1 + 1 + 1 + 1 + 1, mtx (k + 1 + 1 + 1 + 1 + 1 + 1), a7, a8⟩, a9⟩, k9, ⟨⟨n7 + n8 + n9, fun m hm r => ?_⟩, ?_⟩, by omega, by omega⟩
  · refine ⟨k9, ?_⟩
    rw [TInDef.enc_eq, TInDef.enc_eq]
    refine rowActs_txt (s := mtx (k)) rfl (rowActs_inc (by omega) ?_)
    refine rowActs_txt (s := mtx (k + 1)) rfl (rowActs_inc (by omega) ?_)
    refine rowActs_txt (s := mtx (k + 1 + 1)) rfl (rowActs_inc (by omega) ?_)
    refine rowActs_txt (s := mtx (k + 1 + 1 + 1)) rfl (rowActs_inc (by omega) ?_)
    refine rowActs_bool (rowActs_inc (by omega) ?_)
    refine rowActs_int (rowActs_inc (by omega) ?_)
    refine rowActs_txt (s := mtx (k + 1 + 1 + 1 + 1 + 1 + 1)) rfl (rowActs_inc (by omega) ?_)
    refine rowActs_sub (l := v.default'.items.map TValue.enc) rfl (mkF_up (by omega) e7) (rowActs_upd ⟨by omega, by omega⟩ ?_)
    refine rowActs_sub (l := v.default'.names.map S1) rfl (mkF_up (by omega) e8) (rowActs_upd ⟨by omega, by omega⟩ ?_)
    refine rowActs_sub (l := v.dirs.map TDir.enc) rfl (mkF_up (by omega) e9) (rowActs_upd ⟨by omega, by omega⟩ ?_)
    exact rfl
  · trivial
theorem mhS_InDef' (vs : List TInDef) (hs : ∀ v ∈ vs, ∀ k : Int, 0 ≤ k → k + 30 * ((1 + wtL (TInDef.enc v) : Nat) : Int) < 4611686018427387904 → ∃ (x' : TInDef) (k' : Int), (MarkRow mT mTab ms48 TInDef.enc v k x' k' ∧ (True)) ∧ k ≤ k' ∧ k' ≤ k + 30 * ((1 + wtL (TInDef.enc v) : Nat) : Int)) (k : Int) (h0 : 0 ≤ k) (hk : k + 30 * ((DC.wt (.sl (vs.map TInDef.enc)) : Nat) : Int) < 4611686018427387904) : ∃ (vs' : List TInDef) (k' : Int), Mk mT mTab 48 (vs.map TInDef.enc) k (vs'.map TInDef.enc) k' ∧ k ≤ k' ∧ k' ≤ k + 30 * ((DC.wt (.sl (vs.map TInDef.enc)) : Nat) : Int) ∧ True := by
  obtain ⟨vs', k', m, b1, b2, c⟩ := mark_all (Q := fun k x' k' => True) (f := 48) (ms := ms48) rfl vs hs h0 hk
  exact ⟨vs', k', m, b1, b2, trivial⟩
theorem mhS_InDef (vs : List TInDef) (k : Int) (h0 : 0 ≤ k) (hk : k + 30 * ((DC.wt (.sl (vs.map TInDef.enc)) : Nat) : Int) < 4611686018427387904) : ∃ (vs' : List TInDef) (k' : Int), Mk mT mTab 48 (vs.map TInDef.enc) k (vs'.map TInDef.enc) k' ∧ k ≤ k' ∧ k' ≤ k + 30 * ((DC.wt (.sl (vs.map TInDef.enc)) : Nat) : Int) ∧ True := mhS_InDef' vs (fun v _ => mh_InDef v) k h0 hk
theorem mh_FieldDef (v : TFieldDef) : ∀ k : Int, 0 ≤ k → k + 30 * ((1 + wtL (TFieldDef.enc v) : Nat) : Int) < 4611686018427387904 → ∃ (x' : TFieldDef) (k' : Int), (MarkRow mT mTab ms68 TFieldDef.enc v k x' k' ∧ (True)) ∧ k ≤ k' ∧ k' ≤ k + 30 * ((1 + wtL (TFieldDef.enc v) : Nat) : Int) := by
  intro k h0 hk
  rw [wsum_FieldDef, wsum_Type] at hk
  rw [wsum_FieldDef, wsum_Type]
  obtain ⟨a2, k2, ⟨n2, e2⟩, b2, c2, h2⟩ := mhS_InDef v.args (k + 1 + 1) (by omega) (by omega)
  obtain ⟨a5, k5, ⟨n5, e5⟩, b5, c5, h5⟩ := mhS_Dir v.dirs (k2 + 1 + 1) (by omega) (by omega)
  refine ⟨⟨mtx (k), mtx (k + 1), a2, ⟨mtx (k2), mtx (k2 + 1)⟩, a5⟩, k5, ⟨⟨n2 + n5, fun m hm r => ?_⟩, ?_⟩, by omega, by omega⟩
  · refine ⟨k5, ?_⟩
    rw [TFieldDef.enc_eq, TFieldDef.enc_eq]
    refine rowActs_txt (s := mtx (k)) rfl (rowActs_inc (by omega) ?_)
    refine rowActs_txt (s := mtx (k + 1)) rfl (rowActs_inc (by omega) ?_)
    refine rowActs_sub (l := v.args.map TInDef.enc) rfl (mkF_up (by omega) e2) (rowActs_upd ⟨by omega, by omega⟩ ?_)
    refine rowActs_txt (s := mtx (k2)) rfl (rowActs_inc (by omega) ?_)
    refine rowActs_txt (s := mtx (k2 + 1)) rfl (rowActs_inc (by omega) ?_)
    refine rowActs_sub (l := v.dirs.map TDir.enc) rfl (mkF_up (by omega) e5) (rowActs_upd ⟨by omega, by omega⟩ ?_)
    exact rfl
  · trivial
theorem mhS_FieldDef' (vs : List TFieldDef) (hs : ∀ v ∈ vs, ∀ k : Int, 0 ≤ k → k + 30 * ((1 + wtL (TFieldDef.enc v) : Nat) : Int) < 4611686018427387904 → ∃ (x' : TFieldDef) (k' : Int), (MarkRow mT mTab ms68 TFieldDef.enc v k x' k' ∧ (True)) ∧ k ≤ k' ∧ k' ≤ k + 30 * ((1 + wtL (TFieldDef.enc v) : Nat) : Int)) (k : Int) (h0 : 0 ≤ k) (hk : k + 30 * ((DC.wt (.sl (vs.map TFieldDef.enc)) : Nat) : Int) < 4611686018427387904) : ∃ (vs' : List TFieldDef) (k' : Int), Mk mT mTab 68 (vs.map TFieldDef.enc) k (vs'.map TFieldDef.enc) k' ∧ k ≤ k' ∧ k' ≤ k + 30 * ((DC.wt (.sl (vs.map TFieldDef.enc)) : Nat) : Int) ∧ True := by
  obtain ⟨vs', k', m, b1, b2, c⟩ := mark_all (Q := fun k x' k' => True) (f := 68) (ms := ms68) rfl vs hs h0 hk
  exact ⟨vs', k', m, b1, b2, trivial⟩
theorem mhS_FieldDef (vs : List TFieldDef) (k : Int) (h0 : 0 ≤ k) (hk : k + 30 * ((DC.wt (.sl (vs.map TFieldDef.enc)) : Nat) : Int) < 4611686018427387904) : ∃ (vs' : List TFieldDef) (k' : Int), Mk mT mTab 68 (vs.map TFieldDef.enc) k (vs'.map TFieldDef.enc) k' ∧ k ≤ k' ∧ k' ≤ k + 30 * ((DC.wt (.sl (vs.map TFieldDef.enc)) : Nat) : Int) ∧ True := mhS_FieldDef' vs (fun v _ => mh_FieldDef v) k h0 hk
theorem mh_EnumDef (v : TEnumDef) : ∀ k : Int, 0 ≤ k → k + 30 * ((1 + wtL (TEnumDef.enc v) : Nat) : Int) < 4611686018427387904 → ∃ (x' : TEnumDef) (k' : Int), (MarkRow mT mTab ms69 TEnumDef.enc v k x' k' ∧ (True)) ∧ k ≤ k' ∧ k' ≤ k + 30 * ((1 + wtL (TEnumDef.enc v) : Nat) : Int) := by
  intro k h0 hk
  rw [wsum_EnumDef] at hk
  rw [wsum_EnumDef]
  obtain ⟨a2, k2, ⟨n2, e2⟩, b2, c2, h2⟩ := mhS_Dir v.dirs (k + 1 + 1) (by omega) (by omega)
  refine ⟨⟨mtx (k), mtx (k + 1), a2⟩, k2, ⟨⟨n2, fun m hm r => ?_⟩, ?_⟩, by omega, by omega⟩
  · refine ⟨k2, ?_⟩
    rw [TEnumDef.enc_eq, TEnumDef.enc_eq]
    refine rowActs_txt (s := mtx (k)) rfl (rowActs_inc (by omega) ?_)
    refine rowActs_txt (s := mtx (k + 1)) rfl (rowActs_inc (by omega) ?_)
    refine rowActs_sub (l := v.dirs.map TDir.enc) rfl (mkF_up (by omega) e2) (rowActs_upd ⟨by omega, by omega⟩ ?_)
    exact rfl
  · trivial
theorem mhS_EnumDef' (vs : List TEnumDef) (hs : ∀ v ∈ vs, ∀ k : Int, 0 ≤ k → k + 30 * ((1 + wtL (TEnumDef.enc v) : Nat) : Int) < 4611686018427387904 → ∃ (x' : TEnumDef) (k' : Int), (MarkRow mT mTab ms69 TEnumDef.enc v k x' k' ∧ (True)) ∧ k ≤ k' ∧ k' ≤ k + 30 * ((1 + wtL (TEnumDef.enc v) : Nat) : Int)) (k : Int) (h0 : 0 ≤ k) (hk : k + 30 * ((DC.wt (.sl (vs.map TEnumDef.enc)) : Nat) : Int) < 4611686018427387904) : ∃ (vs' : List TEnumDef) (k' : Int), Mk mT mTab 69 (vs.map TEnumDef.enc) k (vs'.map TEnumDef.enc) k' ∧ k ≤ k' ∧ k' ≤ k + 30 * ((DC.wt (.sl (vs.map TEnumDef.enc)) : Nat) : Int) ∧ True := by
  obtain ⟨vs', k', m, b1, b2, c⟩ := mark_all (Q := fun k x' k' => True) (f := 69) (ms := ms69) rfl vs hs h0 hk
  exact ⟨vs', k', m, b1, b2, trivial⟩
theorem mhS_EnumDef (vs : List TEnumDef) (k : Int) (h0 : 0 ≤ k) (hk : k + 30 * ((DC.wt (.sl (vs.map TEnumDef.enc)) : Nat) : Int) < 4611686018427387904) : ∃ (vs' : List TEnumDef) (k' : Int), Mk mT mTab 69 (vs.map TEnumDef.enc) k (vs'.map TEnumDef.enc) k' ∧ k ≤ k' ∧ k' ≤ k + 30 * ((DC.wt (.sl (vs.map TEnumDef.enc)) : Nat) : Int) ∧ True := mhS_EnumDef' vs (fun v _ => mh_EnumDef v) k h0 hk
theorem mh_Root (v : TRoot) : ∀ k : Int, 0 ≤ k → k + 30 * ((1 + wtL (TRoot.enc v) : Nat) : Int) < 4611686018427387904 → ∃ (x' : TRoot) (k' : Int), (MarkRow mT mTab ms47 TRoot.enc v k x' k' ∧ (True)) ∧ k ≤ k' ∧ k' ≤ k + 30 * ((1 + wtL (TRoot.enc v) : Nat) : Int) := by
  intro k h0 hk
  rw [wsum_Root] at hk
  rw [wsum_Root]
  refine ⟨⟨k, mtx (k + 1)⟩, k + 1 + 1, ⟨⟨0, fun m hm r => ?_⟩, ?_⟩, by omega, by omega⟩
  · refine ⟨r, ?_⟩
    rw [TRoot.enc_eq, TRoot.enc_eq]
    refine rowActs_int (rowActs_inc (by omega) ?_)
    refine rowActs_txt (s := mtx (k + 1)) rfl (rowActs_inc (by omega) ?_)
    exact rfl
  · trivial
theorem mhS_Root' (vs : List TRoot) (hs : ∀ v ∈ vs, ∀ k : Int, 0 ≤ k → k + 30 * ((1 + wtL (TRoot.enc v) : Nat) : Int) < 4611686018427387904 → ∃ (x' : TRoot) (k' : Int), (MarkRow mT mTab ms47 TRoot.enc v k x' k' ∧ (True)) ∧ k ≤ k' ∧ k' ≤ k + 30 * ((1 + wtL (TRoot.enc v) : Nat) : Int)) (k : Int) (h0 : 0 ≤ k) (hk : k + 30 * ((DC.wt (.sl (vs.map TRoot.enc)) : Nat) : Int) < 4611686018427387904) : ∃ (vs' : List TRoot) (k' : Int), Mk mT mTab 47 (vs.map TRoot.enc) k (vs'.map TRoot.enc) k' ∧ k ≤ k' ∧ k' ≤ k + 30 * ((DC.wt (.sl (vs.map TRoot.enc)) : Nat) : Int) ∧ True := by
  obtain ⟨vs', k', m, b1, b2, c⟩ := mark_all (Q := fun k x' k' => True) (f := 47) (ms := ms47) rfl vs hs h0 hk
  exact ⟨vs', k', m, b1, b2, trivial⟩
theorem mhS_Root (vs : List TRoot) (k : Int) (h0 : 0 ≤ k) (hk : k + 30 * ((DC.wt (.sl (vs.map TRoot.enc)) : Nat) : Int) < 4611686018427387904) : ∃ (vs' : List TRoot) (k' : Int), Mk mT mTab 47 (vs.map TRoot.enc) k (vs'.map TRoot.enc) k' ∧ k ≤ k' ∧ k' ≤ k + 30 * ((DC.wt (.sl (vs.map TRoot.enc)) : Nat) : Int) ∧ True := mhS_Root' vs (fun v _ => mh_Root v) k h0 hk
theorem mh_Def (v : TDef) : ∀ k : Int, 0 ≤ k → k + 30 * ((1 + wtL (TDef.enc v) : Nat) : Int) < 4611686018427387904 → ∃ (x' : TDef) (k' : Int), (MarkRow mT mTab ms23 TDef.enc v k x' k' ∧ (True)) ∧ k ≤ k' ∧ k' ≤ k + 30 * ((1 + wtL (TDef.enc v) : Nat) : Int) := by
  intro k h0 hk
  rw [wsum_Def] at hk
  rw [wsum_Def]
  obtain ⟨a4, k4, ⟨n4, e4⟩, b4, c4, h4⟩ := mhS_String v.faces (k + 1 + 1 + 1 + 1) (by omega) (by omega)
  obtain ⟨a5, k5, ⟨n5, e5⟩, b5, c5, h5⟩ := mhS_FieldDef v.fields (k4) (by omega) (by omega)
  obtain ⟨a6, k6, ⟨n6, e6⟩, b6, c6, h6⟩ := mhS_InDef v.inputs (k5) (by omega) (by omega)
  obtain ⟨a7, k7, ⟨n7, e7⟩, b7, c7, h7⟩ := mhS_EnumDef v.values (k6) (by omega) (by omega)
  obtain ⟨a8, k8, ⟨n8, e8⟩, b8, c8, h8⟩ := mhS_Root v.roots (k7) (by omega) (by omega)
  obtain ⟨a10, k10, ⟨n10, e10⟩, b10, c10, h10⟩ := mhS_Dir v.dirs (k8 + 1) (by omega) (by omega)
  refine ⟨⟨k, (k + 1) % 3 == 0, mtx (k + 1 + 1), mtx (k + 1 + 1 + 1), a4, a5, a6, a7, a8, (k8) % 3 == 0, a10⟩, k10, ⟨⟨n4 + n5 + n6 + n7 + n8 + n10, fun m hm r => ?_⟩, ?_⟩, by omega, by omega⟩
  · refine ⟨k10, ?_⟩
    rw [TDef.enc_eq, TDef.enc_eq]
    refine rowActs_int (rowActs_inc (by omega) ?_)
    refine rowActs_bool (rowActs_inc (by omega) ?_)
    refine rowActs_txt (s := mtx (k + 1 + 1)) rfl (rowActs_inc (by omega) ?_)
    refine rowActs_txt (s := mtx (k + 1 + 1 + 1)) rfl (rowActs_inc (by omega) ?_)
    refine rowActs_sub (l := v.faces.map S1) rfl (mkF_up (by omega) e4) (rowActs_upd ⟨by omega, by omega⟩ ?_)
    refine rowActs_sub (l := v.fields.map TFieldDef.enc) rfl (mkF_up (by omega) e5) (rowActs_upd ⟨by omega, by omega⟩ ?_)
    refine rowActs_sub (l := v.inputs.map TInDef.enc) rfl (mkF_up (by omega) e6) (rowActs_upd ⟨by omega, by omega⟩ ?_)
    refine rowActs_sub (l := v.values.map TEnumDef.enc) rfl (mkF_up (by omega) e7) (rowActs_upd ⟨by omega, by omega⟩ ?_)
    refine rowActs_sub (l := v.roots.map TRoot.enc) rfl (mkF_up (by omega) e8) (rowActs_upd ⟨by omega, by omega⟩ ?_)
    refine rowActs_bool (rowActs_inc (by omega) ?_)
    refine rowActs_sub (l := v.dirs.map TDir.enc) rfl (mkF_up (by omega) e10) (rowActs_upd ⟨by omega, by omega⟩ ?_)
    exact rfl
  · trivial
theorem mhS_Def' (vs : List TDef) (hs : ∀ v ∈ vs, ∀ k : Int, 0 ≤ k → k + 30 * ((1 + wtL (TDef.enc v) : Nat) : Int) < 4611686018427387904 → ∃ (x' : TDef) (k' : Int), (MarkRow mT mTab ms23 TDef.enc v k x' k' ∧ (True)) ∧ k ≤ k' ∧ k' ≤ k + 30 * ((1 + wtL (TDef.enc v) : Nat) : Int)) (k : Int) (h0 : 0 ≤ k) (hk : k + 30 * ((DC.wt (.sl (vs.map TDef.enc)) : Nat) : Int) < 4611686018427387904) : ∃ (vs' : List TDef) (k' : Int), Mk mT mTab 23 (vs.map TDef.enc) k (vs'.map TDef.enc) k' ∧ k ≤ k' ∧ k' ≤ k + 30 * ((DC.wt (.sl (vs.map TDef.enc)) : Nat) : Int) ∧ True := by
  obtain ⟨vs', k', m, b1, b2, c⟩ := mark_all (Q := fun k x' k' => True) (f := 23) (ms := ms23) rfl vs hs h0 hk
  exact ⟨vs', k', m, b1, b2, trivial⟩
theorem mhS_Def (vs : List TDef) (k : Int) (h0 : 0 ≤ k) (hk : k + 30 * ((DC.wt (.sl (vs.map TDef.enc)) : Nat) : Int) < 4611686018427387904) : ∃ (vs' : List TDef) (k' : Int), Mk mT mTab 23 (vs.map TDef.enc) k (vs'.map TDef.enc) k' ∧ k ≤ k' ∧ k' ≤ k + 30 * ((DC.wt (.sl (vs.map TDef.enc)) : Nat) : Int) ∧ True := mhS_Def' vs (fun v _ => mh_Def v) k h0 hk
theorem mha_Schema (v : TSchema) (k : Int) (h0 : 0 ≤ k) (hk : k + 30 * ((wtL (TSchema.enc v) : Nat) : Int) < 4611686018427387904) : ∃ (x0 : List TDef) (x1 : List TDef) (x2 : List TRoot) (k' : Int), mkAV mT mTab [23, 23, 47] [v.types.map TDef.enc, v.dirs.map TDef.enc, v.roots.map TRoot.enc] k = some ([x0.map TDef.enc, x1.map TDef.enc, x2.map TRoot.enc], k') ∧ k ≤ k' ∧ k' ≤ k + 30 * ((wtL (TSchema.enc v) : Nat) : Int) ∧ True := by
  rw [wsum_Schema] at hk
  rw [wsum_Schema]
  obtain ⟨a0, k0, ⟨n0, e0⟩, b0, c0, h0⟩ := mhS_Def v.types (k) (by omega) (by omega)
  obtain ⟨a1, k1, ⟨n1, e1⟩, b1, c1, h1⟩ := mhS_Def v.dirs (k0) (by omega) (by omega)
  obtain ⟨a2, k2, ⟨n2, e2⟩, b2, c2, h2⟩ := mhS_Root v.roots (k1) (by omega) (by omega)
  refine ⟨a0, a1, a2, k2, mkAV_put (n := n0 + n1 + n2) ?_, by omega, by omega, ?_⟩
  · simp only [mkA, mkF_up (show n0 ≤ n0 + n1 + n2 by omega) e0, mkF_up (show n1 ≤ n0 + n1 + n2 by omega) e1, mkF_up (show n2 ≤ n0 + n1 + n2 by omega) e2]
  · trivial
def wsW (l : List Wd) : Nat := DC.wt (.sl (l.map S1))
theorem wsW_nil : wsW [] = 0 := by simp [wsW, DC.wt, wtV]
theorem wsW_cons (x : Wd) (l : List Wd) : wsW (x :: l) = 1 + x.length + wsW l := by
  unfold wsW
  simp only [DC.wt, List.map_cons, List.length_cons, wtV, S1, wtL, List.length_map]
  omega
theorem wsW_app : ∀ a b : List Wd, wsW (a ++ b) = wsW a + wsW b
  | [], b => by rw [wsW_nil]; simp
  | x :: a, b => by
    rw [List.cons_append, wsW_cons, wsW_cons, wsW_app a b]
    omega
theorem wsW_sub {a b : List Wd} (h : a.Sublist b) : wsW a ≤ wsW b := by
  induction h with
  | slnil => exact Nat.le_refl _
  | cons x _ ih => rw [wsW_cons]; omega
  | cons_cons x _ ih => rw [wsW_cons, wsW_cons]; omega
theorem wsW_perm {a b : List Wd} (h : a.Perm b) : wsW a = wsW b := by
  induction h with
  | nil => rfl
  | cons x _ ih => rw [wsW_cons, wsW_cons, ih]
  | swap x y l => simp only [wsW_cons]; omega
  | trans _ _ ih1 ih2 => exact ih1.trans ih2
theorem wsW_ups (l : List Wd) : wsW (ups l) ≤ wsW l := by
  have hz : ∀ zs : List Wd, (List.range zs.length).map (zs.toArray[·]!) = zs := fun zs => by
    apply List.ext_getElem
    · simp
    · intro i h1 h2
      simp [h2]
  have h1 : (ups l).Sublist (l.mergeSort fun x y => decide (x ≤ y)) := by
    unfold ups Lib.compact Lib.compactUpTo
    have := List.Sublist.map ((l.mergeSort fun x y => decide (x ≤ y)).toArray[·]!) (List.filter_sublist (p := Lib.keeps (l.mergeSort fun x y => decide (x ≤ y)).toArray) (l := List.range (l.mergeSort fun x y => decide (x ≤ y)).length))
    rw [hz] at this
    exact this
  have h2 := wsW_perm (List.mergeSort_perm l fun x y => decide (x ≤ y))
  have := wsW_sub h1
  omega
theorem wsW_mays (K : Int) (F : List Wd) (n : Wd) : ∀ l : List TDef, wsW (mays K F n l) ≤ DC.wt (.sl (l.map TDef.enc))
  | [] => by simp [mays, wsW, DC.wt, wtV]
  | x :: l => by
    have ih := wsW_mays K F n l
    have hx : wsW (if mayBe K F n x = true then [x.name] else []) ≤ 1 + wtL (TDef.enc x) := by
      rw [wsum_Def]
      split
      · rw [wsW_cons, wsW_nil]; omega
      · rw [wsW_nil]; omega
    have e : mays K F n (x :: l) = (if mayBe K F n x = true then [x.name] else []) ++ mays K F n l := by simp [mays]
    rw [e, wsW_app]
    simp only [DC.wt, List.map_cons, List.length_cons, wtV, List.length_map] at ih ⊢
    omega
theorem posOf_wt (l : List TDef) (n : Wd) : DC.wt (.sl ((posOf l n).map S1)) ≤ DC.wt (.sl (l.map TDef.enc)) := by
  show wsW (posOf l n) ≤ _
  unfold posOf
  cases defOf l n with
  | none => rw [wsW_nil]; exact Nat.zero_le _
  | some t => exact Nat.le_trans (wsW_ups _) (wsW_mays _ _ _ _)
mutual
theorem wfc_ok {ty : Nat → Option TI} : ∀ {t : CT} {c : DC}, WfC ty t c → c.ok
  | _, _, .b x => by simp [DC.ok]
  | _, _, .i k n _ _ => by simp [DC.ok]
  | _, _, .s l h => by rw [DC.ok]; simpa [maxLen] using h
  | _, _, .sl e te l h1 h2 h3 => by rw [DC.ok]; exact ⟨by simpa [maxLen] using h2, wfv_ok h3⟩
  | _, _, .nil e => by rw [DC.ok]; exact ⟨by simp, by rw [okV]; trivial⟩
theorem wfl_ok {ty : Nat → Option TI} : ∀ {ts : List CT} {x : List DC}, WfL ty ts x → okL x
  | _, _, .nil => by rw [okL]; trivial
  | _, _, .cons t ts x xs h1 h2 => by rw [okL]; exact ⟨wfc_ok h1, wfl_ok h2⟩
theorem wfv_ok {ty : Nat → Option TI} : ∀ {ts : List CT} {l : List (List DC)}, WfV ty ts l → okV l
  | _, _, .nil ts => by rw [okV]; trivial
  | _, _, .cons ts x l h1 h2 => by rw [okV]; exact ⟨wfl_ok h1, wfv_ok h2⟩
end
theorem decV {α : Type} {ty : Nat → Option TI} {enc : α → List DC} {cts : List CT} : ∀ {l : List (List DC)}, (∀ x ∈ l, WfL ty cts x → ∃ v, x = enc v) → WfV ty cts l → ∃ vs : List α, l = vs.map enc
  | [], _, _ => ⟨[], rfl⟩
  | x :: l, h, hw => by
    cases hw with
    | cons ts x l h1 h2 =>
      obtain ⟨v, hv⟩ := h x (by simp) h1
      obtain ⟨vs, hvs⟩ := decV (fun y hy => h y (by simp [hy])) h2
      exact ⟨v :: vs, by rw [List.map_cons, hv, hvs]⟩
theorem decC {α : Type} {ty : Nat → Option TI} {enc : α → List DC} {e : Nat} {te : TI} {c : DC} (hte : ty e = some te) (h : ∀ l, c = .sl l → ∀ x ∈ l, WfL ty te.cts x → ∃ v, x = enc v) (hw : WfC ty (.sl e) c) : ∃ vs : List α, c = .sl (vs.map enc) := by
  cases hw with
  | sl e te' l h1 h2 h3 =>
    rw [hte] at h1
    obtain rfl := Option.some.inj h1
    obtain ⟨vs, hvs⟩ := decV (h l rfl) h3
    exact ⟨vs, by rw [hvs]⟩
  | nil => exact ⟨[], rfl⟩
theorem dec_i {ty : Nat → Option TI} {k : IntKind} {c : DC} (h : WfC ty (.i k) c) : ∃ n, c = .i n ∧ k.min ≤ n ∧ n ≤ k.max := by
  cases h with
  | i k n h1 h2 => exact ⟨n, rfl, h1, h2⟩
theorem dec_b {ty : Nat → Option TI} {c : DC} (h : WfC ty .b c) : ∃ n, c = .b n := by cases h; exact ⟨_, rfl⟩
theorem dec_s {ty : Nat → Option TI} {c : DC} (h : WfC ty .s c) : ∃ n, c = .s n := by cases h; exact ⟨_, rfl⟩
theorem dec_S1 {ty : Nat → Option TI} {x : List DC} (h : WfL ty [.s] x) : ∃ n, x = S1 n := by
  cases h with
  | cons t ts x xs h1 h2 =>
    cases h2
    obtain ⟨n, rfl⟩ := dec_s h1
    exact ⟨n, rfl⟩
theorem wfl_cons {ty : Nat → Option TI} {t : CT} {ts : List CT} {x : List DC} (h : WfL ty (t :: ts) x) : ∃ c xs, x = c :: xs ∧ WfC ty t c ∧ WfL ty ts xs := by
  cases h with
  | cons t ts x xs h1 h2 => exact ⟨x, xs, rfl, h1, h2⟩
theorem wfl_nil {ty : Nat → Option TI} {x : List DC} (h : WfL ty [] x) : x = [] := by cases h; rfl
theorem mem_row_lt {l : List (List DC)} {x : List DC} (h : x ∈ l) : SizeOf.sizeOf x < SizeOf.sizeOf (DC.sl l) := by
  have := List.sizeOf_lt_of_mem h
  simp only [DC.sl.sizeOf_spec]
  omega
theorem tyS : cfg.ty 9 = some ⟨.str, [.s], 16, [], false⟩ := by kernel_rfl
theorem ty_Value : cfg.ty 168 = some ⟨.struct, [.i .i64, .s, .sl 168, .sl 9], 72, [(0, 1, false), (1, 1, false), (2, 1, false), (3, 1, false)], false⟩ := by kernel_rfl
theorem dec_Value {x : List DC} (h0 : WfL cfg.ty [.i .i64, .s, .sl 168, .sl 9] x) : ∃ v : TValue, x = TValue.enc v := by
  have h := h0
  obtain ⟨c0, r0, e0, w0, h⟩ := wfl_cons h
  obtain ⟨n0, rfl, _, _⟩ := dec_i w0
  obtain ⟨c1, r1, e1, w1, h⟩ := wfl_cons h
  obtain ⟨n1, rfl⟩ := dec_s w1
  obtain ⟨c2, r2, e2, w2, h⟩ := wfl_cons h
  have hrec2 : ∀ l, c2 = .sl l → ∀ y ∈ l, WfL cfg.ty [.i .i64, .s, .sl 168, .sl 9] y → ∃ v : TValue, y = TValue.enc v := fun l hl y hy hw => by
    have hlt : SizeOf.sizeOf y < SizeOf.sizeOf x := by
      have := mem_row_lt hy
      rw [← hl] at this
      subst e0 e1 e2
      simp only [List.cons.sizeOf_spec]
      omega
    exact dec_Value hw
  obtain ⟨n2, rfl⟩ := decC (enc := TValue.enc) ty_Value hrec2 w2
  obtain ⟨c3, r3, e3, w3, h⟩ := wfl_cons h
  obtain ⟨n3, rfl⟩ := decC (enc := S1) tyS (fun l _ y hy hw => dec_S1 hw) w3
  have hn := wfl_nil h
  refine ⟨⟨n0, n1, n2, n3⟩, ?_⟩
  rw [TValue.enc_eq]
  subst hn
  simp only [e0, e1, e2, e3]
termination_by SizeOf.sizeOf x
theorem ty_Arg : cfg.ty 221 = some ⟨.struct, [.s, .i .i64, .s, .sl 168, .sl 9], 88, [(0, 1, false), (1, 4, true)], false⟩ := by kernel_rfl
theorem dec_Arg {x : List DC} (h0 : WfL cfg.ty [.s, .i .i64, .s, .sl 168, .sl 9] x) : ∃ v : TArg, x = TArg.enc v := by
  have h := h0
  obtain ⟨c0, r0, e0, w0, h⟩ := wfl_cons h
  obtain ⟨n0, rfl⟩ := dec_s w0
  obtain ⟨c1, r1, e1, w1, h⟩ := wfl_cons h
  obtain ⟨n1, rfl, _, _⟩ := dec_i w1
  obtain ⟨c2, r2, e2, w2, h⟩ := wfl_cons h
  obtain ⟨n2, rfl⟩ := dec_s w2
  obtain ⟨c3, r3, e3, w3, h⟩ := wfl_cons h
  obtain ⟨n3, rfl⟩ := decC (enc := TValue.enc) ty_Value (fun l _ y hy hw => dec_Value hw) w3
  obtain ⟨c4, r4, e4, w4, h⟩ := wfl_cons h
  obtain ⟨n4, rfl⟩ := decC (enc := S1) tyS (fun l _ y hy hw => dec_S1 hw) w4
  have hn := wfl_nil h
  refine ⟨⟨n0, ⟨n1, n2, n3, n4⟩⟩, ?_⟩
  rw [TArg.enc_eq]
  subst hn
  simp only [e0, e1, e2, e3, e4]
theorem ty_Dir : cfg.ty 177 = some ⟨.struct, [.s, .sl 221], 40, [(0, 1, false), (1, 1, false)], false⟩ := by kernel_rfl
theorem dec_Dir {x : List DC} (h0 : WfL cfg.ty [.s, .sl 221] x) : ∃ v : TDir, x = TDir.enc v := by
  have h := h0
  obtain ⟨c0, r0, e0, w0, h⟩ := wfl_cons h
  obtain ⟨n0, rfl⟩ := dec_s w0
  obtain ⟨c1, r1, e1, w1, h⟩ := wfl_cons h
  obtain ⟨n1, rfl⟩ := decC (enc := TArg.enc) ty_Arg (fun l _ y hy hw => dec_Arg hw) w1
  have hn := wfl_nil h
  refine ⟨⟨n0, n1⟩, ?_⟩
  rw [TDir.enc_eq]
  subst hn
  simp only [e0, e1]
theorem ty_InDef : cfg.ty 170 = some ⟨.struct, [.s, .s, .s, .s, .b, .i .i64, .s, .sl 168, .sl 9, .sl 177], 168, [(0, 1, false), (1, 1, false), (2, 2, true), (4, 1, false), (5, 4, true), (9, 1, false)], false⟩ := by kernel_rfl
theorem dec_InDef {x : List DC} (h0 : WfL cfg.ty [.s, .s, .s, .s, .b, .i .i64, .s, .sl 168, .sl 9, .sl 177] x) : ∃ v : TInDef, x = TInDef.enc v := by
  have h := h0
  obtain ⟨c0, r0, e0, w0, h⟩ := wfl_cons h
  obtain ⟨n0, rfl⟩ := dec_s w0
  obtain ⟨c1, r1, e1, w1, h⟩ := wfl_cons h
  obtain ⟨n1, rfl⟩ := dec_s w1
  obtain ⟨c2, r2, e2, w2, h⟩ := wfl_cons h
  obtain ⟨n2, rfl⟩ := dec_s w2
  obtain ⟨c3, r3, e3, w3, h⟩ := wfl_cons h
  obtain ⟨n3, rfl⟩ := dec_s w3
  obtain ⟨c4, r4, e4, w4, h⟩ := wfl_cons h
  obtain ⟨n4, rfl⟩ := dec_b w4
  obtain ⟨c5, r5, e5, w5, h⟩ := wfl_cons h
  obtain ⟨n5, rfl, _, _⟩ := dec_i w5
  obtain ⟨c6, r6, e6, w6, h⟩ := wfl_cons h
  obtain ⟨n6, rfl⟩ := dec_s w6
  obtain ⟨c7, r7, e7, w7, h⟩ := wfl_cons h
  obtain ⟨n7, rfl⟩ := decC (enc := TValue.enc) ty_Value (fun l _ y hy hw => dec_Value hw) w7
  obtain ⟨c8, r8, e8, w8, h⟩ := wfl_cons h
  obtain ⟨n8, rfl⟩ := decC (enc := S1) tyS (fun l _ y hy hw => dec_S1 hw) w8
  obtain ⟨c9, r9, e9, w9, h⟩ := wfl_cons h
  obtain ⟨n9, rfl⟩ := decC (enc := TDir.enc) ty_Dir (fun l _ y hy hw => dec_Dir hw) w9
  have hn := wfl_nil h
  refine ⟨⟨n0, n1, ⟨n2, n3⟩, n4, ⟨n5, n6, n7, n8⟩, n9⟩, ?_⟩
  rw [TInDef.enc_eq]
  subst hn
  simp only [e0, e1, e2, e3, e4, e5, e6, e7, e8, e9]
theorem ty_FieldDef : cfg.ty 164 = some ⟨.struct, [.s, .s, .sl 170, .s, .s, .sl 177], 112, [(0, 1, false), (1, 1, false), (2, 1, false), (3, 2, true), (5, 1, false)], false⟩ := by kernel_rfl
theorem dec_FieldDef {x : List DC} (h0 : WfL cfg.ty [.s, .s, .sl 170, .s, .s, .sl 177] x) : ∃ v : TFieldDef, x = TFieldDef.enc v := by
  have h := h0
  obtain ⟨c0, r0, e0, w0, h⟩ := wfl_cons h
  obtain ⟨n0, rfl⟩ := dec_s w0
  obtain ⟨c1, r1, e1, w1, h⟩ := wfl_cons h
  obtain ⟨n1, rfl⟩ := dec_s w1
  obtain ⟨c2, r2, e2, w2, h⟩ := wfl_cons h
  obtain ⟨n2, rfl⟩ := decC (enc := TInDef.enc) ty_InDef (fun l _ y hy hw => dec_InDef hw) w2
  obtain ⟨c3, r3, e3, w3, h⟩ := wfl_cons h
  obtain ⟨n3, rfl⟩ := dec_s w3
  obtain ⟨c4, r4, e4, w4, h⟩ := wfl_cons h
  obtain ⟨n4, rfl⟩ := dec_s w4
  obtain ⟨c5, r5, e5, w5, h⟩ := wfl_cons h
  obtain ⟨n5, rfl⟩ := decC (enc := TDir.enc) ty_Dir (fun l _ y hy hw => dec_Dir hw) w5
  have hn := wfl_nil h
  refine ⟨⟨n0, n1, n2, ⟨n3, n4⟩, n5⟩, ?_⟩
  rw [TFieldDef.enc_eq]
  subst hn
  simp only [e0, e1, e2, e3, e4, e5]
theorem ty_EnumDef : cfg.ty 173 = some ⟨.struct, [.s, .s, .sl 177], 56, [(0, 1, false), (1, 1, false), (2, 1, false)], false⟩ := by kernel_rfl
theorem dec_EnumDef {x : List DC} (h0 : WfL cfg.ty [.s, .s, .sl 177] x) : ∃ v : TEnumDef, x = TEnumDef.enc v := by
  have h := h0
  obtain ⟨c0, r0, e0, w0, h⟩ := wfl_cons h
  obtain ⟨n0, rfl⟩ := dec_s w0
  obtain ⟨c1, r1, e1, w1, h⟩ := wfl_cons h
  obtain ⟨n1, rfl⟩ := dec_s w1
  obtain ⟨c2, r2, e2, w2, h⟩ := wfl_cons h
  obtain ⟨n2, rfl⟩ := decC (enc := TDir.enc) ty_Dir (fun l _ y hy hw => dec_Dir hw) w2
  have hn := wfl_nil h
  refine ⟨⟨n0, n1, n2⟩, ?_⟩
  rw [TEnumDef.enc_eq]
  subst hn
  simp only [e0, e1, e2]
theorem ty_Root : cfg.ty 112 = some ⟨.struct, [.i .i64, .s], 24, [(0, 1, false), (1, 1, false)], false⟩ := by kernel_rfl
theorem dec_Root {x : List DC} (h0 : WfL cfg.ty [.i .i64, .s] x) : ∃ v : TRoot, x = TRoot.enc v := by
  have h := h0
  obtain ⟨c0, r0, e0, w0, h⟩ := wfl_cons h
  obtain ⟨n0, rfl, _, _⟩ := dec_i w0
  obtain ⟨c1, r1, e1, w1, h⟩ := wfl_cons h
  obtain ⟨n1, rfl⟩ := dec_s w1
  have hn := wfl_nil h
  refine ⟨⟨n0, n1⟩, ?_⟩
  rw [TRoot.enc_eq]
  subst hn
  simp only [e0, e1]
theorem ty_Def : cfg.ty 79 = some ⟨.struct, [.i .i64, .b, .s, .s, .sl 9, .sl 164, .sl 170, .sl 173, .sl 112, .b, .sl 177], 200, [(0, 1, false), (1, 1, false), (2, 1, false), (3, 1, false), (4, 1, false), (5, 1, false), (6, 1, false), (7, 1, false), (8, 1, false), (9, 1, false), (10, 1, false)], false⟩ := by kernel_rfl
theorem dec_Def {x : List DC} (h0 : WfL cfg.ty [.i .i64, .b, .s, .s, .sl 9, .sl 164, .sl 170, .sl 173, .sl 112, .b, .sl 177] x) : ∃ v : TDef, x = TDef.enc v := by
  have h := h0
  obtain ⟨c0, r0, e0, w0, h⟩ := wfl_cons h
  obtain ⟨n0, rfl, _, _⟩ := dec_i w0
  obtain ⟨c1, r1, e1, w1, h⟩ := wfl_cons h
  obtain ⟨n1, rfl⟩ := dec_b w1
  obtain ⟨c2, r2, e2, w2, h⟩ := wfl_cons h
  obtain ⟨n2, rfl⟩ := dec_s w2
  obtain ⟨c3, r3, e3, w3, h⟩ := wfl_cons h
  obtain ⟨n3, rfl⟩ := dec_s w3
  obtain ⟨c4, r4, e4, w4, h⟩ := wfl_cons h
  obtain ⟨n4, rfl⟩ := decC (enc := S1) tyS (fun l _ y hy hw => dec_S1 hw) w4
  obtain ⟨c5, r5, e5, w5, h⟩ := wfl_cons h
  obtain ⟨n5, rfl⟩ := decC (enc := TFieldDef.enc) ty_FieldDef (fun l _ y hy hw => dec_FieldDef hw) w5
  obtain ⟨c6, r6, e6, w6, h⟩ := wfl_cons h
  obtain ⟨n6, rfl⟩ := decC (enc := TInDef.enc) ty_InDef (fun l _ y hy hw => dec_InDef hw) w6
  obtain ⟨c7, r7, e7, w7, h⟩ := wfl_cons h
  obtain ⟨n7, rfl⟩ := decC (enc := TEnumDef.enc) ty_EnumDef (fun l _ y hy hw => dec_EnumDef hw) w7
  obtain ⟨c8, r8, e8, w8, h⟩ := wfl_cons h
  obtain ⟨n8, rfl⟩ := decC (enc := TRoot.enc) ty_Root (fun l _ y hy hw => dec_Root hw) w8
  obtain ⟨c9, r9, e9, w9, h⟩ := wfl_cons h
  obtain ⟨n9, rfl⟩ := dec_b w9
  obtain ⟨c10, r10, e10, w10, h⟩ := wfl_cons h
  obtain ⟨n10, rfl⟩ := decC (enc := TDir.enc) ty_Dir (fun l _ y hy hw => dec_Dir hw) w10
  have hn := wfl_nil h
  refine ⟨⟨n0, n1, n2, n3, n4, n5, n6, n7, n8, n9, n10⟩, ?_⟩
  rw [TDef.enc_eq]
  subst hn
  simp only [e0, e1, e2, e3, e4, e5, e6, e7, e8, e9, e10]
theorem dec_Schema {x : List DC} (h0 : WfL cfg.ty [.sl 79, .sl 79, .sl 112] x) : ∃ v : TSchema, x = TSchema.enc v := by
  have h := h0
  obtain ⟨c0, r0, e0, w0, h⟩ := wfl_cons h
  obtain ⟨n0, rfl⟩ := decC (enc := TDef.enc) ty_Def (fun l _ y hy hw => dec_Def hw) w0
  obtain ⟨c1, r1, e1, w1, h⟩ := wfl_cons h
  obtain ⟨n1, rfl⟩ := decC (enc := TDef.enc) ty_Def (fun l _ y hy hw => dec_Def hw) w1
  obtain ⟨c2, r2, e2, w2, h⟩ := wfl_cons h
  obtain ⟨n2, rfl⟩ := decC (enc := TRoot.enc) ty_Root (fun l _ y hy hw => dec_Root hw) w2
  have hn := wfl_nil h
  refine ⟨⟨n0, n1, n2⟩, ?_⟩
  rw [TSchema.enc_eq]
  subst hn
  simp only [e0, e1, e2]
theorem wfl_app {ty : Nat → Option TI} : ∀ {ts1 ts2 : List CT} {x : List DC}, WfL ty (ts1 ++ ts2) x → ∃ y z, x = y ++ z ∧ WfL ty ts1 y ∧ WfL ty ts2 z
  | [], ts2, x, h => ⟨[], x, rfl, .nil, h⟩
  | t :: ts1, ts2, x, h => by
    obtain ⟨c, xs, rfl, h1, h2⟩ := wfl_cons h
    obtain ⟨y, z, rfl, h3, h4⟩ := wfl_app h2
    exact ⟨c :: y, z, rfl, .cons _ _ _ _ h1 h3, h4⟩
theorem law_FnExactPossibleOf (d : List DC) (hd : WfL cfg.ty [.sl 79, .sl 79, .sl 112, .s] d) : r_laws_FnExactPossibleOf d = .ret [.b true] := by
  obtain ⟨y0, z0, e0, w0, hd⟩ := wfl_app (ts1 := [.sl 79, .sl 79, .sl 112]) (ts2 := [.s]) hd
  obtain ⟨y1, z1, e1, w1, hd⟩ := wfl_app (ts1 := [.s]) (ts2 := []) hd
  have hz := wfl_nil hd
  have k0 := wfl_ok w0
  obtain ⟨a0, g0⟩ := dec_Schema w0
  subst g0
  obtain ⟨c1, q1, f1, v1, u1⟩ := wfl_cons w1
  have x1 := wfl_nil u1
  have k1 := wfc_ok v1
  obtain ⟨a1, g1⟩ := dec_s v1
  subst g1 x1 f1
  subst hz
  subst e1
  subst e0
  rw [eq_laws_FnExactPossibleOf]
  simp only [E_laws_FnExactPossibleOf, TSchema.enc_eq, List.cons_append, List.nil_append, List.append_nil, List.getD_cons_zero, List.getD_cons_succ, DC.bb_b, DC.ii_i, DC.ss_s, DC.ll_sl]
  by_cases b1 : (a1.length : Int) > 1048576
  · simp only [b1, decide_true, if_true]
  simp only [b1, decide_false, Bool.false_eq_true, if_false]
  rw [sz_Schema a0 k0 (1048576) (by omega) (by omega)]
  simp only [Out.bindR_ret, List.getD_cons_zero, List.getD_cons_succ, DC.bb_b, DC.ii_i, DC.ss_s, DC.ll_sl]
  by_cases s0 : (1048576 : Int) < ((wtL (TSchema.enc a0) : Nat) : Int)
  · rw [szR_lt s0]
    rfl
  rw [szR_ge s0]
  have s0' : ¬ (1048576 : Int) - ((wtL (TSchema.enc a0) : Nat) : Int) < 0 := by omega
  simp only [s0', decide_false, Bool.false_eq_true, if_false]
  have W0 : wtL (TSchema.enc a0) ≤ 1048576 := by omega
  have l0_types : a0.types.length ≤ 1048576 := by have h := W0; simp only [TSchema.enc_eq, wtL, DC.wt, List.length_map] at h; omega
  have l0_dirs : a0.dirs.length ≤ 1048576 := by have h := W0; simp only [TSchema.enc_eq, wtL, DC.wt, List.length_map] at h; omega
  have l0_roots : a0.roots.length ≤ 1048576 := by have h := W0; simp only [TSchema.enc_eq, wtL, DC.wt, List.length_map] at h; omega
  have w0 : DC.wt (.sl (a0.types.map TDef.enc)) ≤ 1048576 := by have h := W0; simp only [TSchema.enc_eq, wtL] at h; omega
  have hs := spec_PossibleOf a0.types (a0.dirs.map TDef.enc) (a0.roots.map TRoot.enc) a1 w0
  have hi := impl_PossibleOf a0.types (a0.dirs.map TDef.enc) (a0.roots.map TRoot.enc) a1 w0
  have hrw := posOf_wt a0.types a1
  have hrl := posOf_len a0.types a1
  have hdl := defs_len w0
  obtain ⟨x0, x1, x2, k0, M0, p0, _, _⟩ := mha_Schema a0 1 (by omega) (by omega)
  obtain ⟨z1, k1, M1, p1, q1, H1⟩ := mhS_String (posOf a0.types a1) 1 (by omega) (by omega)
  have n0 : ¬ k0 < 0 := by omega
  have n1 : ¬ k1 < 0 := by omega
  simp only [to_Schema a0 W0, eq_Schema a0 W0, hs, hi, TSchema.enc_eq, List.getD_cons_zero, List.getD_cons_succ, DC.bb_b, DC.ii_i, DC.ss_s, DC.ll_sl, Out.bindR_ret, bne_self_eq_false, beq_self_eq_true, Bool.not_true, Bool.false_eq_true, if_false, eqS_String (posOf a0.types a1) (by omega), M0, M1.at, markM, List.length_cons, List.length_nil, if_true, n0, n1, decide_false, H1, Out.andThen]
end Go.Proofs.QV
