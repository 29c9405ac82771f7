import Derived.Test.YtgkcnpfldkjnbaaGreatMA9
import Derived.Test.YtgkcnpfldkjnbaaGreatMA6
/- What the helpers of the laws do (written by a program). -/
namespace Go.Proofs.QV
open Go
set_option linter.unusedVariables false
set_option linter.unusedSimpArgs false
set_option maxRecDepth 100000
theorem szS_String (ns : List (List UInt8)) (ok : (DC.sl (ns.map S1)).ok) (left : Int) (h0 : 0 ≤ left) (h1 : left ≤ 1048576) : r_laws_szStringS [.sl (ns.map S1), .i left] = .ret [.i (szR left (DC.wt (.sl (ns.map S1))))] := by
  rw [DC.ok, List.length_map] at ok
  obtain ⟨hl, ok⟩ := ok
  rw [eq_laws_szStringS]
  simp only [E_laws_szStringS, List.getD_cons_zero, List.getD_cons_succ, DC.bb_b, DC.ii_i, DC.ss_s, DC.ll_sl]
  refine szS_all hl (fun i hi left h0 h1 => ?_) (fun left => ?_) h0 h1
  · have hn := okV_mem ok (S1 ns[i]) (List.mem_map_of_mem (List.getElem_mem hi))
    simp only [S1, okL, DC.ok] at hn
    have hw : IntKind.i64.wrap (left - (ns[i].length : Int)) = left - (ns[i].length : Int) := wrap64 (by omega) (by omega)
    have hc1 : (i : Int) < (ns.length : Int) := by omega
    simp only [E_laws_szStringSL1, List.getD_cons_zero, List.getD_cons_succ, DC.bb_b, DC.ii_i, DC.ss_s, DC.ll_sl, Int.toNat_natCast, List.length_map, map_getD hi, S1, wtL, DC.wt, hw]
    by_cases hc : left < (ns[i].length : Int)
    · simp [hi, hc1, hc, show left - (ns[i].length : Int) < 0 by omega]
    · simp [hi, hc1, hc, show ¬ left - (ns[i].length : Int) < 0 by omega, wrap_succ hi hl]
  · simp [E_laws_szStringSL1]
theorem toS_String (ns : List (List UInt8)) (hl : ns.length ≤ 1048576) : r_laws_toStringS [.sl (ns.map S1)] = .ret [.sl (ns.map S1)] := by
  rw [eq_laws_toStringS]
  simp only [E_laws_toStringS, List.getD_cons_zero, List.getD_cons_succ, DC.bb_b, DC.ii_i, DC.ss_s, DC.ll_sl]
  rw [if_pos ⟨by omega, by rw [List.length_map]; exact lim_of hl, trivial, by omega, by omega, rfl⟩, Int.toNat_natCast, List.length_map, show (0 : Int) = ((0 : Nat) : Int) from rfl, toS_loop hl (fun i hi cur h1 h2 => ?_) (fun cur => ?_)]
  · rfl
  · have hc1 : (i : Int) < (ns.length : Int) := by omega
    simp only [E_laws_toStringSL1, List.getD_cons_zero, List.getD_cons_succ, DC.bb_b, DC.ii_i, DC.ss_s, DC.ll_sl, Int.toNat_natCast, List.length_map, map_getD hi, h1, h2, S1]
    simp [hi, hc1, wrap_succ hi (show ns.length ≤ 9223372036854775807 by omega), setRunD]
  · simp [E_laws_toStringSL1]
theorem eqS_String (ns : List (List UInt8)) (hl : ns.length ≤ 1048576) : r_laws_eqStringS [.sl (ns.map S1), .sl (ns.map S1)] = .ret [.b true] := by
  rw [eq_laws_eqStringS]
  simp only [E_laws_eqStringS, List.getD_cons_zero, List.getD_cons_succ, DC.bb_b, DC.ii_i, DC.ss_s, DC.ll_sl]
  refine eqS_all (fun i hi => ?_) ?_
  · rw [List.length_map] at hi
    have hc1 : (i : Int) < (ns.length : Int) := by omega
    simp only [E_laws_eqStringSL1, List.getD_cons_zero, List.getD_cons_succ, DC.bb_b, DC.ii_i, DC.ss_s, DC.ll_sl, Int.toNat_natCast, List.length_map, map_getD hi, S1]
    simp [hi, hc1, wrap_succ hi (show ns.length ≤ 9223372036854775807 by omega)]
  · simp [E_laws_eqStringSL1]
theorem wsum_Value (v : TValue) : wtL (TValue.enc v) = v.text.length + DC.wt (.sl (v.items.map TValue.enc)) + DC.wt (.sl (v.names.map S1)) := by
  simp only [TValue.enc_eq, wtL, DC.wt]
  try omega
theorem szS_Value' (vs : List TValue) (hs : ∀ v ∈ vs, okL (TValue.enc v) → ∀ left : Int, 0 ≤ left → left ≤ 1048576 → r_laws_szValue [.i v.kind, .s v.text, .sl (v.items.map TValue.enc), .sl (v.names.map S1), .i left] = .ret [.i (szR left (wtL (TValue.enc v)))]) (ok : (DC.sl (vs.map TValue.enc)).ok) (left : Int) (h0 : 0 ≤ left) (h1 : left ≤ 1048576) : r_laws_szValueS [.sl (vs.map TValue.enc), .i left] = .ret [.i (szR left (DC.wt (.sl (vs.map TValue.enc))))] := by
  rw [DC.ok, List.length_map] at ok
  obtain ⟨hl, ok⟩ := ok
  rw [eq_laws_szValueS]
  simp only [E_laws_szValueS, List.getD_cons_zero, List.getD_cons_succ, DC.bb_b, DC.ii_i, DC.ss_s, DC.ll_sl]
  refine szS_all hl (fun i hi left h0 h1 => ?_) (fun left => ?_) h0 h1
  · have key := hs vs[i] (List.getElem_mem hi) (okV_mem ok _ (List.mem_map_of_mem (List.getElem_mem hi))) left h0 h1
    generalize wtL (TValue.enc vs[i]) = w at key ⊢
    have hc1 : (i : Int) < (vs.length : Int) := by omega
    simp only [E_laws_szValueSL1, List.getD_cons_zero, List.getD_cons_succ, DC.bb_b, DC.ii_i, DC.ss_s, DC.ll_sl, Int.toNat_natCast, List.length_map, map_getD hi, TValue.enc_eq, key, Out.bindR_ret]
    by_cases hc : left < (w : Int)
    · simp [hi, hc1, hc, szR_lt hc]
    · simp [hi, hc1, hc, szR_ge hc, show ¬ left - (w : Int) < 0 by omega, wrap_succ hi hl]
  · simp [E_laws_szValueSL1]
theorem sz_Value (v : TValue) : okL (TValue.enc v) → ∀ left : Int, 0 ≤ left → left ≤ 1048576 → r_laws_szValue [.i v.kind, .s v.text, .sl (v.items.map TValue.enc), .sl (v.names.map S1), .i left] = .ret [.i (szR left (wtL (TValue.enc v)))] := by
  induction v using TValue.ind with | h v ih =>
  intro ok left h0 h1
  rw [TValue.enc_eq] at ok
  simp only [okL] at ok
  rw [eq_laws_szValue]
  simp only [E_laws_szValue, List.getD_cons_zero, List.getD_cons_succ, DC.bb_b, DC.ii_i, DC.ss_s, DC.ll_sl]
  rw [wsum_Value]
  have b0 : v.text.length ≤ 9223372036854775807 := by simpa only [DC.ok] using ok.2.1
  rw [show IntKind.i64.wrap (left - (v.text.length : Int)) = left - (v.text.length : Int) from wrap64 (by omega) (by omega)]
  by_cases c0 : left < ((v.text.length : Nat) : Int)
  · have c0' : left - ((v.text.length : Nat) : Int) < 0 := by omega
    simp only [c0', decide_true, if_true]
    try rw [szR_lt (by omega)]
  have c0' : ¬ left - ((v.text.length : Nat) : Int) < 0 := by omega
  simp only [c0', decide_false, Bool.false_eq_true, if_false]
  rw [szS_Value' v.items (fun x hx => ih x hx) ok.2.2.1 ((left - ((v.text.length : Nat) : Int))) (by omega) (by omega)]
  simp only [Out.bindR_ret, List.getD_cons_zero, List.getD_cons_succ, DC.bb_b, DC.ii_i, DC.ss_s, DC.ll_sl]
  by_cases c1 : (left - ((v.text.length : Nat) : Int)) < ((DC.wt (.sl (v.items.map TValue.enc)) : Nat) : Int)
  · rw [szR_lt c1]
    simp only [show (-1 : Int) < 0 by omega, decide_true, if_true]
    try rw [szR_lt (by omega)]
  rw [szR_ge c1]
  have c1' : ¬ (left - ((v.text.length : Nat) : Int)) - ((DC.wt (.sl (v.items.map TValue.enc)) : Nat) : Int) < 0 := by omega
  simp only [c1', decide_false, Bool.false_eq_true, if_false]
  rw [szS_String v.names ok.2.2.2.1 (((left - ((v.text.length : Nat) : Int)) - ((DC.wt (.sl (v.items.map TValue.enc)) : Nat) : Int))) (by omega) (by omega)]
  simp only [Out.bindR_ret, List.getD_cons_zero, List.getD_cons_succ, DC.bb_b, DC.ii_i, DC.ss_s, DC.ll_sl]
  by_cases c2 : ((left - ((v.text.length : Nat) : Int)) - ((DC.wt (.sl (v.items.map TValue.enc)) : Nat) : Int)) < ((DC.wt (.sl (v.names.map S1)) : Nat) : Int)
  · rw [szR_lt c2]
    simp only [show (-1 : Int) < 0 by omega, decide_true, if_true]
    try rw [szR_lt (by omega)]
  rw [szR_ge c2]
  have c2' : ¬ ((left - ((v.text.length : Nat) : Int)) - ((DC.wt (.sl (v.items.map TValue.enc)) : Nat) : Int)) - ((DC.wt (.sl (v.names.map S1)) : Nat) : Int) < 0 := by omega
  simp only [c2', decide_false, Bool.false_eq_true, if_false]
  first
  | done
  | rw [show szR left (v.text.length + DC.wt (.sl (v.items.map TValue.enc)) + DC.wt (.sl (v.names.map S1))) = (((left - ((v.text.length : Nat) : Int)) - ((DC.wt (.sl (v.items.map TValue.enc)) : Nat) : Int)) - ((DC.wt (.sl (v.names.map S1)) : Nat) : Int)) from (szR_ge (by omega)).trans (by omega)]
theorem toS_Value' (vs : List TValue) (hs : ∀ v ∈ vs, wtL (TValue.enc v) ≤ 1048576 → r_laws_toValue [.i v.kind, .s v.text, .sl (v.items.map TValue.enc), .sl (v.names.map S1)] = .ret (TValue.enc v)) (hw : DC.wt (.sl (vs.map TValue.enc)) ≤ 1048576) : r_laws_toValueS [.sl (vs.map TValue.enc)] = .ret [.sl (vs.map TValue.enc)] := by
  rw [DC.wt, List.length_map] at hw
  have hl : vs.length ≤ 1048576 := by omega
  rw [eq_laws_toValueS]
  simp only [E_laws_toValueS, List.getD_cons_zero, List.getD_cons_succ, DC.bb_b, DC.ii_i, DC.ss_s, DC.ll_sl]
  rw [if_pos ⟨by omega, by rw [List.length_map]; exact lim_of hl, trivial, by omega, by omega, rfl⟩, Int.toNat_natCast, List.length_map, show (0 : Int) = ((0 : Nat) : Int) from rfl, toS_loop hl (fun i hi cur h1 h2 => ?_) (fun cur => ?_)]
  · rfl
  · have key := hs vs[i] (List.getElem_mem hi) (by have := wtV_mem (List.mem_map_of_mem (f := TValue.enc) (List.getElem_mem hi)); omega)
    have hc1 : (i : Int) < (vs.length : Int) := by omega
    simp only [E_laws_toValueSL1, List.getD_cons_zero, List.getD_cons_succ, DC.bb_b, DC.ii_i, DC.ss_s, DC.ll_sl, Int.toNat_natCast, List.length_map, map_getD hi, h1, h2, TValue.enc_eq] at key ⊢
    simp only [key, List.getD_cons_zero, List.getD_cons_succ, DC.bb_b, DC.ii_i, DC.ss_s, DC.ll_sl, Out.bindR_ret]
    simp [hi, hc1, wrap_succ hi (show vs.length ≤ 9223372036854775807 by omega), setRunD]
  · simp [E_laws_toValueSL1]
theorem to_Value (v : TValue) : wtL (TValue.enc v) ≤ 1048576 → r_laws_toValue [.i v.kind, .s v.text, .sl (v.items.map TValue.enc), .sl (v.names.map S1)] = .ret (TValue.enc v) := by
  induction v using TValue.ind with | h v ih =>
  intro hw
  rw [wsum_Value] at hw
  rw [eq_laws_toValue]
  simp only [E_laws_toValue, List.getD_cons_zero, List.getD_cons_succ, DC.bb_b, DC.ii_i, DC.ss_s, DC.ll_sl]
  rw [toS_Value' v.items (fun x hx => ih x hx) (by omega)]
  simp only [Out.bindR_ret, List.getD_cons_zero, List.getD_cons_succ, DC.bb_b, DC.ii_i, DC.ss_s, DC.ll_sl]
  rw [toS_String v.names (by have h := hw; simp only [DC.wt, List.length_map] at h; omega)]
  simp only [Out.bindR_ret, List.getD_cons_zero, List.getD_cons_succ, DC.bb_b, DC.ii_i, DC.ss_s, DC.ll_sl]
  rw [TValue.enc_eq]
theorem eqS_Value' (vs : List TValue) (hs : ∀ v ∈ vs, wtL (TValue.enc v) ≤ 1048576 → r_laws_eqValue [.i v.kind, .s v.text, .sl (v.items.map TValue.enc), .sl (v.names.map S1), .i v.kind, .s v.text, .sl (v.items.map TValue.enc), .sl (v.names.map S1)] = .ret [.b true]) (hw : DC.wt (.sl (vs.map TValue.enc)) ≤ 1048576) : r_laws_eqValueS [.sl (vs.map TValue.enc), .sl (vs.map TValue.enc)] = .ret [.b true] := by
  rw [DC.wt, List.length_map] at hw
  have hl : vs.length ≤ 1048576 := by omega
  rw [eq_laws_eqValueS]
  simp only [E_laws_eqValueS, List.getD_cons_zero, List.getD_cons_succ, DC.bb_b, DC.ii_i, DC.ss_s, DC.ll_sl]
  refine eqS_all (fun i hi => ?_) ?_
  · rw [List.length_map] at hi
    have key := hs vs[i] (List.getElem_mem hi) (by have := wtV_mem (List.mem_map_of_mem (f := TValue.enc) (List.getElem_mem hi)); omega)
    have hc1 : (i : Int) < (vs.length : Int) := by omega
    simp only [E_laws_eqValueSL1, List.getD_cons_zero, List.getD_cons_succ, DC.bb_b, DC.ii_i, DC.ss_s, DC.ll_sl, Int.toNat_natCast, List.length_map, map_getD hi, TValue.enc_eq] at key ⊢
    simp only [key, List.getD_cons_zero, List.getD_cons_succ, DC.bb_b, DC.ii_i, DC.ss_s, DC.ll_sl, Out.bindR_ret]
    simp [hi, hc1, wrap_succ hi (show vs.length ≤ 9223372036854775807 by omega)]
  · simp [E_laws_eqValueSL1]
theorem eq_Value (v : TValue) : wtL (TValue.enc v) ≤ 1048576 → r_laws_eqValue [.i v.kind, .s v.text, .sl (v.items.map TValue.enc), .sl (v.names.map S1), .i v.kind, .s v.text, .sl (v.items.map TValue.enc), .sl (v.names.map S1)] = .ret [.b true] := by
  induction v using TValue.ind with | h v ih =>
  intro hw
  rw [wsum_Value] at hw
  rw [eq_laws_eqValue]
  simp only [E_laws_eqValue, List.getD_cons_zero, List.getD_cons_succ, DC.bb_b, DC.ii_i, DC.ss_s, DC.ll_sl, bne_self_eq_false, beq_self_eq_true, Bool.not_true, Bool.false_eq_true, if_false]
  rw [eqS_Value' v.items (fun x hx => ih x hx) (by omega)]
  simp only [Out.bindR_ret, List.getD_cons_zero, List.getD_cons_succ, DC.bb_b, DC.ii_i, DC.ss_s, DC.ll_sl, bne_self_eq_false, beq_self_eq_true, Bool.not_true, Bool.false_eq_true, if_false]
  rw [eqS_String v.names (by have h := hw; simp only [DC.wt, List.length_map] at h; omega)]
  simp only [Out.bindR_ret, List.getD_cons_zero, List.getD_cons_succ, DC.bb_b, DC.ii_i, DC.ss_s, DC.ll_sl, bne_self_eq_false, beq_self_eq_true, Bool.not_true, Bool.false_eq_true, if_false]
theorem wsum_Type (v : TType) : wtL (TType.enc v) = v.name.length + v.wraps.length := by
  simp only [TType.enc_eq, wtL, DC.wt]
  try omega
theorem sz_Type (v : TType) : okL (TType.enc v) → ∀ left : Int, 0 ≤ left → left ≤ 1048576 → r_laws_szType [.s v.name, .s v.wraps, .i left] = .ret [.i (szR left (wtL (TType.enc v)))] := by
  intro ok left h0 h1
  rw [TType.enc_eq] at ok
  simp only [okL] at ok
  rw [eq_laws_szType]
  simp only [E_laws_szType, List.getD_cons_zero, List.getD_cons_succ, DC.bb_b, DC.ii_i, DC.ss_s, DC.ll_sl]
  rw [wsum_Type]
  have b0 : v.name.length ≤ 9223372036854775807 := by simpa only [DC.ok] using ok.1
  have b1 : v.wraps.length ≤ 9223372036854775807 := by simpa only [DC.ok] using ok.2.1
  rw [show IntKind.i64.wrap (left - (v.name.length : Int)) = left - (v.name.length : Int) from wrap64 (by omega) (by omega)]
  by_cases c0 : left < ((v.name.length : Nat) : Int)
  · have c0' : left - ((v.name.length : Nat) : Int) < 0 := by omega
    simp only [c0', decide_true, if_true]
    try rw [szR_lt (by omega)]
  have c0' : ¬ left - ((v.name.length : Nat) : Int) < 0 := by omega
  simp only [c0', decide_false, Bool.false_eq_true, if_false]
  rw [show IntKind.i64.wrap ((left - ((v.name.length : Nat) : Int)) - (v.wraps.length : Int)) = (left - ((v.name.length : Nat) : Int)) - (v.wraps.length : Int) from wrap64 (by omega) (by omega)]
  by_cases c1 : (left - ((v.name.length : Nat) : Int)) < ((v.wraps.length : Nat) : Int)
  · have c1' : (left - ((v.name.length : Nat) : Int)) - ((v.wraps.length : Nat) : Int) < 0 := by omega
    simp only [c1', decide_true, if_true]
    try rw [szR_lt (by omega)]
  have c1' : ¬ (left - ((v.name.length : Nat) : Int)) - ((v.wraps.length : Nat) : Int) < 0 := by omega
  simp only [c1', decide_false, Bool.false_eq_true, if_false]
  first
  | done
  | rw [show szR left (v.name.length + v.wraps.length) = ((left - ((v.name.length : Nat) : Int)) - ((v.wraps.length : Nat) : Int)) from (szR_ge (by omega)).trans (by omega)]
theorem to_Type (v : TType) : wtL (TType.enc v) ≤ 1048576 → r_laws_toType [.s v.name, .s v.wraps] = .ret (TType.enc v) := by
  intro hw
  rw [wsum_Type] at hw
  rw [eq_laws_toType]
  simp only [E_laws_toType, List.getD_cons_zero, List.getD_cons_succ, DC.bb_b, DC.ii_i, DC.ss_s, DC.ll_sl]
  rw [TType.enc_eq]
theorem eq_Type (v : TType) : wtL (TType.enc v) ≤ 1048576 → r_laws_eqType [.s v.name, .s v.wraps, .s v.name, .s v.wraps] = .ret [.b true] := by
  intro hw
  rw [wsum_Type] at hw
  rw [eq_laws_eqType]
  simp only [E_laws_eqType, List.getD_cons_zero, List.getD_cons_succ, DC.bb_b, DC.ii_i, DC.ss_s, DC.ll_sl, bne_self_eq_false, beq_self_eq_true, Bool.not_true, Bool.false_eq_true, if_false]
theorem wsum_Arg (v : TArg) : wtL (TArg.enc v) = v.name.length + wtL (TValue.enc v.value) := by
  simp only [TArg.enc_eq, wtL, DC.wt, TValue.enc_eq]
  try omega
theorem sz_Arg (v : TArg) : okL (TArg.enc v) → ∀ left : Int, 0 ≤ left → left ≤ 1048576 → r_laws_szArg [.s v.name, .i v.value.kind, .s v.value.text, .sl (v.value.items.map TValue.enc), .sl (v.value.names.map S1), .i left] = .ret [.i (szR left (wtL (TArg.enc v)))] := by
  intro ok left h0 h1
  rw [TArg.enc_eq] at ok
  simp only [okL] at ok
  rw [eq_laws_szArg]
  simp only [E_laws_szArg, List.getD_cons_zero, List.getD_cons_succ, DC.bb_b, DC.ii_i, DC.ss_s, DC.ll_sl]
  rw [wsum_Arg]
  have b0 : v.name.length ≤ 9223372036854775807 := by simpa only [DC.ok] using ok.1
  rw [show IntKind.i64.wrap (left - (v.name.length : Int)) = left - (v.name.length : Int) from wrap64 (by omega) (by omega)]
  by_cases c0 : left < ((v.name.length : Nat) : Int)
  · have c0' : left - ((v.name.length : Nat) : Int) < 0 := by omega
    simp only [c0', decide_true, if_true]
    try rw [szR_lt (by omega)]
  have c0' : ¬ left - ((v.name.length : Nat) : Int) < 0 := by omega
  simp only [c0', decide_false, Bool.false_eq_true, if_false]
  rw [sz_Value v.value (by rw [TValue.enc_eq]; simp only [okL]; exact ⟨ok.2.1, ok.2.2.1, ok.2.2.2.1, ok.2.2.2.2.1, trivial⟩) ((left - ((v.name.length : Nat) : Int))) (by omega) (by omega)]
  simp only [Out.bindR_ret, List.getD_cons_zero, List.getD_cons_succ, DC.bb_b, DC.ii_i, DC.ss_s, DC.ll_sl]
  by_cases c1 : (left - ((v.name.length : Nat) : Int)) < ((wtL (TValue.enc v.value) : Nat) : Int)
  · rw [szR_lt c1]
    simp only [show (-1 : Int) < 0 by omega, decide_true, if_true]
    try rw [szR_lt (by omega)]
  rw [szR_ge c1]
  have c1' : ¬ (left - ((v.name.length : Nat) : Int)) - ((wtL (TValue.enc v.value) : Nat) : Int) < 0 := by omega
  simp only [c1', decide_false, Bool.false_eq_true, if_false]
  first
  | done
  | rw [show szR left (v.name.length + wtL (TValue.enc v.value)) = ((left - ((v.name.length : Nat) : Int)) - ((wtL (TValue.enc v.value) : Nat) : Int)) from (szR_ge (by omega)).trans (by omega)]
theorem szS_Arg' (vs : List TArg) (hs : ∀ v ∈ vs, okL (TArg.enc v) → ∀ left : Int, 0 ≤ left → left ≤ 1048576 → r_laws_szArg [.s v.name, .i v.value.kind, .s v.value.text, .sl (v.value.items.map TValue.enc), .sl (v.value.names.map S1), .i left] = .ret [.i (szR left (wtL (TArg.enc v)))]) (ok : (DC.sl (vs.map TArg.enc)).ok) (left : Int) (h0 : 0 ≤ left) (h1 : left ≤ 1048576) : r_laws_szArgS [.sl (vs.map TArg.enc), .i left] = .ret [.i (szR left (DC.wt (.sl (vs.map TArg.enc))))] := by
  rw [DC.ok, List.length_map] at ok
  obtain ⟨hl, ok⟩ := ok
  rw [eq_laws_szArgS]
  simp only [E_laws_szArgS, List.getD_cons_zero, List.getD_cons_succ, DC.bb_b, DC.ii_i, DC.ss_s, DC.ll_sl]
  refine szS_all hl (fun i hi left h0 h1 => ?_) (fun left => ?_) h0 h1
  · have key := hs vs[i] (List.getElem_mem hi) (okV_mem ok _ (List.mem_map_of_mem (List.getElem_mem hi))) left h0 h1
    generalize wtL (TArg.enc vs[i]) = w at key ⊢
    have hc1 : (i : Int) < (vs.length : Int) := by omega
    simp only [E_laws_szArgSL1, List.getD_cons_zero, List.getD_cons_succ, DC.bb_b, DC.ii_i, DC.ss_s, DC.ll_sl, Int.toNat_natCast, List.length_map, map_getD hi, TArg.enc_eq, key, Out.bindR_ret]
    by_cases hc : left < (w : Int)
    · simp [hi, hc1, hc, szR_lt hc]
    · simp [hi, hc1, hc, szR_ge hc, show ¬ left - (w : Int) < 0 by omega, wrap_succ hi hl]
  · simp [E_laws_szArgSL1]
theorem szS_Arg (vs : List TArg) (ok : (DC.sl (vs.map TArg.enc)).ok) (left : Int) (h0 : 0 ≤ left) (h1 : left ≤ 1048576) : r_laws_szArgS [.sl (vs.map TArg.enc), .i left] = .ret [.i (szR left (DC.wt (.sl (vs.map TArg.enc))))] := szS_Arg' vs (fun v _ => sz_Arg v) ok left h0 h1
theorem to_Arg (v : TArg) : wtL (TArg.enc v) ≤ 1048576 → r_laws_toArg [.s v.name, .i v.value.kind, .s v.value.text, .sl (v.value.items.map TValue.enc), .sl (v.value.names.map S1)] = .ret (TArg.enc v) := by
  intro hw
  rw [wsum_Arg] at hw
  rw [eq_laws_toArg]
  simp only [E_laws_toArg, List.getD_cons_zero, List.getD_cons_succ, DC.bb_b, DC.ii_i, DC.ss_s, DC.ll_sl]
  rw [to_Value v.value (by omega)]
  simp only [Out.bindR_ret, TValue.enc_eq, List.getD_cons_zero, List.getD_cons_succ, DC.bb_b, DC.ii_i, DC.ss_s, DC.ll_sl]
  rw [TArg.enc_eq]
theorem toS_Arg' (vs : List TArg) (hs : ∀ v ∈ vs, wtL (TArg.enc v) ≤ 1048576 → r_laws_toArg [.s v.name, .i v.value.kind, .s v.value.text, .sl (v.value.items.map TValue.enc), .sl (v.value.names.map S1)] = .ret (TArg.enc v)) (hw : DC.wt (.sl (vs.map TArg.enc)) ≤ 1048576) : r_laws_toArgS [.sl (vs.map TArg.enc)] = .ret [.sl (vs.map TArg.enc)] := by
  rw [DC.wt, List.length_map] at hw
  have hl : vs.length ≤ 1048576 := by omega
  rw [eq_laws_toArgS]
  simp only [E_laws_toArgS, List.getD_cons_zero, List.getD_cons_succ, DC.bb_b, DC.ii_i, DC.ss_s, DC.ll_sl]
  rw [if_pos ⟨by omega, by rw [List.length_map]; exact lim_of hl, trivial, by omega, by omega, rfl⟩, Int.toNat_natCast, List.length_map, show (0 : Int) = ((0 : Nat) : Int) from rfl, toS_loop hl (fun i hi cur h1 h2 => ?_) (fun cur => ?_)]
  · rfl
  · have key := hs vs[i] (List.getElem_mem hi) (by have := wtV_mem (List.mem_map_of_mem (f := TArg.enc) (List.getElem_mem hi)); omega)
    have hc1 : (i : Int) < (vs.length : Int) := by omega
    simp only [E_laws_toArgSL1, List.getD_cons_zero, List.getD_cons_succ, DC.bb_b, DC.ii_i, DC.ss_s, DC.ll_sl, Int.toNat_natCast, List.length_map, map_getD hi, h1, h2, TArg.enc_eq] at key ⊢
    simp only [key, List.getD_cons_zero, List.getD_cons_succ, DC.bb_b, DC.ii_i, DC.ss_s, DC.ll_sl, Out.bindR_ret]
    simp [hi, hc1, wrap_succ hi (show vs.length ≤ 9223372036854775807 by omega), setRunD]
  · simp [E_laws_toArgSL1]
theorem toS_Arg (vs : List TArg) (hw : DC.wt (.sl (vs.map TArg.enc)) ≤ 1048576) : r_laws_toArgS [.sl (vs.map TArg.enc)] = .ret [.sl (vs.map TArg.enc)] := toS_Arg' vs (fun v _ => to_Arg v) hw
theorem eq_Arg (v : TArg) : wtL (TArg.enc v) ≤ 1048576 → r_laws_eqArg [.s v.name, .i v.value.kind, .s v.value.text, .sl (v.value.items.map TValue.enc), .sl (v.value.names.map S1), .s v.name, .i v.value.kind, .s v.value.text, .sl (v.value.items.map TValue.enc), .sl (v.value.names.map S1)] = .ret [.b true] := by
  intro hw
  rw [wsum_Arg] at hw
  rw [eq_laws_eqArg]
  simp only [E_laws_eqArg, List.getD_cons_zero, List.getD_cons_succ, DC.bb_b, DC.ii_i, DC.ss_s, DC.ll_sl, bne_self_eq_false, beq_self_eq_true, Bool.not_true, Bool.false_eq_true, if_false]
  rw [eq_Value v.value (by omega)]
  simp only [Out.bindR_ret, List.getD_cons_zero, List.getD_cons_succ, DC.bb_b, DC.ii_i, DC.ss_s, DC.ll_sl, bne_self_eq_false, beq_self_eq_true, Bool.not_true, Bool.false_eq_true, if_false]
theorem eqS_Arg' (vs : List TArg) (hs : ∀ v ∈ vs, wtL (TArg.enc v) ≤ 1048576 → r_laws_eqArg [.s v.name, .i v.value.kind, .s v.value.text, .sl (v.value.items.map TValue.enc), .sl (v.value.names.map S1), .s v.name, .i v.value.kind, .s v.value.text, .sl (v.value.items.map TValue.enc), .sl (v.value.names.map S1)] = .ret [.b true]) (hw : DC.wt (.sl (vs.map TArg.enc)) ≤ 1048576) : r_laws_eqArgS [.sl (vs.map TArg.enc), .sl (vs.map TArg.enc)] = .ret [.b true] := by
  rw [DC.wt, List.length_map] at hw
  have hl : vs.length ≤ 1048576 := by omega
  rw [eq_laws_eqArgS]
  simp only [E_laws_eqArgS, List.getD_cons_zero, List.getD_cons_succ, DC.bb_b, DC.ii_i, DC.ss_s, DC.ll_sl]
  refine eqS_all (fun i hi => ?_) ?_
  · rw [List.length_map] at hi
    have key := hs vs[i] (List.getElem_mem hi) (by have := wtV_mem (List.mem_map_of_mem (f := TArg.enc) (List.getElem_mem hi)); omega)
    have hc1 : (i : Int) < (vs.length : Int) := by omega
    simp only [E_laws_eqArgSL1, List.getD_cons_zero, List.getD_cons_succ, DC.bb_b, DC.ii_i, DC.ss_s, DC.ll_sl, Int.toNat_natCast, List.length_map, map_getD hi, TArg.enc_eq] at key ⊢
    simp only [key, List.getD_cons_zero, List.getD_cons_succ, DC.bb_b, DC.ii_i, DC.ss_s, DC.ll_sl, Out.bindR_ret]
    simp [hi, hc1, wrap_succ hi (show vs.length ≤ 9223372036854775807 by omega)]
  · simp [E_laws_eqArgSL1]
theorem eqS_Arg (vs : List TArg) (hw : DC.wt (.sl (vs.map TArg.enc)) ≤ 1048576) : r_laws_eqArgS [.sl (vs.map TArg.enc), .sl (vs.map TArg.enc)] = .ret [.b true] := eqS_Arg' vs (fun v _ => eq_Arg v) hw
theorem wsum_Dir (v : TDir) : wtL (TDir.enc v) = v.name.length + DC.wt (.sl (v.args.map TArg.enc)) := by
  simp only [TDir.enc_eq, wtL, DC.wt]
  try omega
theorem sz_Dir (v : TDir) : okL (TDir.enc v) → ∀ left : Int, 0 ≤ left → left ≤ 1048576 → r_laws_szDir [.s v.name, .sl (v.args.map TArg.enc), .i left] = .ret [.i (szR left (wtL (TDir.enc v)))] := by
  intro ok left h0 h1
  rw [TDir.enc_eq] at ok
  simp only [okL] at ok
  rw [eq_laws_szDir]
  simp only [E_laws_szDir, List.getD_cons_zero, List.getD_cons_succ, DC.bb_b, DC.ii_i, DC.ss_s, DC.ll_sl]
  rw [wsum_Dir]
  have b0 : v.name.length ≤ 9223372036854775807 := by simpa only [DC.ok] using ok.1
  rw [show IntKind.i64.wrap (left - (v.name.length : Int)) = left - (v.name.length : Int) from wrap64 (by omega) (by omega)]
  by_cases c0 : left < ((v.name.length : Nat) : Int)
  · have c0' : left - ((v.name.length : Nat) : Int) < 0 := by omega
    simp only [c0', decide_true, if_true]
    try rw [szR_lt (by omega)]
  have c0' : ¬ left - ((v.name.length : Nat) : Int) < 0 := by omega
  simp only [c0', decide_false, Bool.false_eq_true, if_false]
  rw [szS_Arg v.args ok.2.1 ((left - ((v.name.length : Nat) : Int))) (by omega) (by omega)]
  simp only [Out.bindR_ret, List.getD_cons_zero, List.getD_cons_succ, DC.bb_b, DC.ii_i, DC.ss_s, DC.ll_sl]
  by_cases c1 : (left - ((v.name.length : Nat) : Int)) < ((DC.wt (.sl (v.args.map TArg.enc)) : Nat) : Int)
  · rw [szR_lt c1]
    simp only [show (-1 : Int) < 0 by omega, decide_true, if_true]
    try rw [szR_lt (by omega)]
  rw [szR_ge c1]
  have c1' : ¬ (left - ((v.name.length : Nat) : Int)) - ((DC.wt (.sl (v.args.map TArg.enc)) : Nat) : Int) < 0 := by omega
  simp only [c1', decide_false, Bool.false_eq_true, if_false]
  first
  | done
  | rw [show szR left (v.name.length + DC.wt (.sl (v.args.map TArg.enc))) = ((left - ((v.name.length : Nat) : Int)) - ((DC.wt (.sl (v.args.map TArg.enc)) : Nat) : Int)) from (szR_ge (by omega)).trans (by omega)]
theorem szS_Dir' (vs : List TDir) (hs : ∀ v ∈ vs, okL (TDir.enc v) → ∀ left : Int, 0 ≤ left → left ≤ 1048576 → r_laws_szDir [.s v.name, .sl (v.args.map TArg.enc), .i left] = .ret [.i (szR left (wtL (TDir.enc v)))]) (ok : (DC.sl (vs.map TDir.enc)).ok) (left : Int) (h0 : 0 ≤ left) (h1 : left ≤ 1048576) : r_laws_szDirS [.sl (vs.map TDir.enc), .i left] = .ret [.i (szR left (DC.wt (.sl (vs.map TDir.enc))))] := by
  rw [DC.ok, List.length_map] at ok
  obtain ⟨hl, ok⟩ := ok
  rw [eq_laws_szDirS]
  simp only [E_laws_szDirS, List.getD_cons_zero, List.getD_cons_succ, DC.bb_b, DC.ii_i, DC.ss_s, DC.ll_sl]
  refine szS_all hl (fun i hi left h0 h1 => ?_) (fun left => ?_) h0 h1
  · have key := hs vs[i] (List.getElem_mem hi) (okV_mem ok _ (List.mem_map_of_mem (List.getElem_mem hi))) left h0 h1
    generalize wtL (TDir.enc vs[i]) = w at key ⊢
    have hc1 : (i : Int) < (vs.length : Int) := by omega
    simp only [E_laws_szDirSL1, List.getD_cons_zero, List.getD_cons_succ, DC.bb_b, DC.ii_i, DC.ss_s, DC.ll_sl, Int.toNat_natCast, List.length_map, map_getD hi, TDir.enc_eq, key, Out.bindR_ret]
    by_cases hc : left < (w : Int)
    · simp [hi, hc1, hc, szR_lt hc]
    · simp [hi, hc1, hc, szR_ge hc, show ¬ left - (w : Int) < 0 by omega, wrap_succ hi hl]
  · simp [E_laws_szDirSL1]
theorem szS_Dir (vs : List TDir) (ok : (DC.sl (vs.map TDir.enc)).ok) (left : Int) (h0 : 0 ≤ left) (h1 : left ≤ 1048576) : r_laws_szDirS [.sl (vs.map TDir.enc), .i left] = .ret [.i (szR left (DC.wt (.sl (vs.map TDir.enc))))] := szS_Dir' vs (fun v _ => sz_Dir v) ok left h0 h1
theorem to_Dir (v : TDir) : wtL (TDir.enc v) ≤ 1048576 → r_laws_toDir [.s v.name, .sl (v.args.map TArg.enc)] = .ret (TDir.enc v) := by
  intro hw
  rw [wsum_Dir] at hw
  rw [eq_laws_toDir]
  simp only [E_laws_toDir, List.getD_cons_zero, List.getD_cons_succ, DC.bb_b, DC.ii_i, DC.ss_s, DC.ll_sl]
  rw [toS_Arg v.args (by omega)]
  simp only [Out.bindR_ret, List.getD_cons_zero, List.getD_cons_succ, DC.bb_b, DC.ii_i, DC.ss_s, DC.ll_sl]
  rw [TDir.enc_eq]
theorem toS_Dir' (vs : List TDir) (hs : ∀ v ∈ vs, wtL (TDir.enc v) ≤ 1048576 → r_laws_toDir [.s v.name, .sl (v.args.map TArg.enc)] = .ret (TDir.enc v)) (hw : DC.wt (.sl (vs.map TDir.enc)) ≤ 1048576) : r_laws_toDirS [.sl (vs.map TDir.enc)] = .ret [.sl (vs.map TDir.enc)] := by
  rw [DC.wt, List.length_map] at hw
  have hl : vs.length ≤ 1048576 := by omega
  rw [eq_laws_toDirS]
  simp only [E_laws_toDirS, List.getD_cons_zero, List.getD_cons_succ, DC.bb_b, DC.ii_i, DC.ss_s, DC.ll_sl]
  rw [if_pos ⟨by omega, by rw [List.length_map]; exact lim_of hl, trivial, by omega, by omega, rfl⟩, Int.toNat_natCast, List.length_map, show (0 : Int) = ((0 : Nat) : Int) from rfl, toS_loop hl (fun i hi cur h1 h2 => ?_) (fun cur => ?_)]
  · rfl
  · have key := hs vs[i] (List.getElem_mem hi) (by have := wtV_mem (List.mem_map_of_mem (f := TDir.enc) (List.getElem_mem hi)); omega)
    have hc1 : (i : Int) < (vs.length : Int) := by omega
    simp only [E_laws_toDirSL1, List.getD_cons_zero, List.getD_cons_succ, DC.bb_b, DC.ii_i, DC.ss_s, DC.ll_sl, Int.toNat_natCast, List.length_map, map_getD hi, h1, h2, TDir.enc_eq] at key ⊢
    simp only [key, List.getD_cons_zero, List.getD_cons_succ, DC.bb_b, DC.ii_i, DC.ss_s, DC.ll_sl, Out.bindR_ret]
    simp [hi, hc1, wrap_succ hi (show vs.length ≤ 9223372036854775807 by omega), setRunD]
  · simp [E_laws_toDirSL1]
theorem toS_Dir (vs : List TDir) (hw : DC.wt (.sl (vs.map TDir.enc)) ≤ 1048576) : r_laws_toDirS [.sl (vs.map TDir.enc)] = .ret [.sl (vs.map TDir.enc)] := toS_Dir' vs (fun v _ => to_Dir v) hw
theorem eq_Dir (v : TDir) : wtL (TDir.enc v) ≤ 1048576 → r_laws_eqDir [.s v.name, .sl (v.args.map TArg.enc), .s v.name, .sl (v.args.map TArg.enc)] = .ret [.b true] := by
  intro hw
  rw [wsum_Dir] at hw
  rw [eq_laws_eqDir]
  simp only [E_laws_eqDir, List.getD_cons_zero, List.getD_cons_succ, DC.bb_b, DC.ii_i, DC.ss_s, DC.ll_sl, bne_self_eq_false, beq_self_eq_true, Bool.not_true, Bool.false_eq_true, if_false]
  rw [eqS_Arg v.args (by omega)]
  simp only [Out.bindR_ret, List.getD_cons_zero, List.getD_cons_succ, DC.bb_b, DC.ii_i, DC.ss_s, DC.ll_sl, bne_self_eq_false, beq_self_eq_true, Bool.not_true, Bool.false_eq_true, if_false]
theorem eqS_Dir' (vs : List TDir) (hs : ∀ v ∈ vs, wtL (TDir.enc v) ≤ 1048576 → r_laws_eqDir [.s v.name, .sl (v.args.map TArg.enc), .s v.name, .sl (v.args.map TArg.enc)] = .ret [.b true]) (hw : DC.wt (.sl (vs.map TDir.enc)) ≤ 1048576) : r_laws_eqDirS [.sl (vs.map TDir.enc), .sl (vs.map TDir.enc)] = .ret [.b true] := by
  rw [DC.wt, List.length_map] at hw
  have hl : vs.length ≤ 1048576 := by omega
  rw [eq_laws_eqDirS]
  simp only [E_laws_eqDirS, List.getD_cons_zero, List.getD_cons_succ, DC.bb_b, DC.ii_i, DC.ss_s, DC.ll_sl]
  refine eqS_all (fun i hi => ?_) ?_
  · rw [List.length_map] at hi
    have key := hs vs[i] (List.getElem_mem hi) (by have := wtV_mem (List.mem_map_of_mem (f := TDir.enc) (List.getElem_mem hi)); omega)
    have hc1 : (i : Int) < (vs.length : Int) := by omega
    simp only [E_laws_eqDirSL1, List.getD_cons_zero, List.getD_cons_succ, DC.bb_b, DC.ii_i, DC.ss_s, DC.ll_sl, Int.toNat_natCast, List.length_map, map_getD hi, TDir.enc_eq] at key ⊢
    simp only [key, List.getD_cons_zero, List.getD_cons_succ, DC.bb_b, DC.ii_i, DC.ss_s, DC.ll_sl, Out.bindR_ret]
    simp [hi, hc1, wrap_succ hi (show vs.length ≤ 9223372036854775807 by omega)]
  · simp [E_laws_eqDirSL1]
theorem eqS_Dir (vs : List TDir) (hw : DC.wt (.sl (vs.map TDir.enc)) ≤ 1048576) : r_laws_eqDirS [.sl (vs.map TDir.enc), .sl (vs.map TDir.enc)] = .ret [.b true] := eqS_Dir' vs (fun v _ => eq_Dir v) hw
theorem wsum_InDef (v : TInDef) : wtL (TInDef.enc v) = v.name.length + v.desc.length + wtL (TType.enc v.type') + wtL (TValue.enc v.default') + DC.wt (.sl (v.dirs.map TDir.enc)) := by
  simp only [TInDef.enc_eq, wtL, DC.wt, TType.enc_eq, TValue.enc_eq]
  try omega
theorem sz_InDef (v : TInDef) : okL (TInDef.enc v) → ∀ left : Int, 0 ≤ left → left ≤ 1048576 → r_laws_szInDef [.s v.name, .s v.desc, .s v.type'.name, .s v.type'.wraps, .b v.has', .i v.default'.kind, .s v.default'.text, .sl (v.default'.items.map TValue.enc), .sl (v.default'.names.map S1), .sl (v.dirs.map TDir.enc), .i left] = .ret [.i (szR left (wtL (TInDef.enc v)))] := by
  intro ok left h0 h1
  rw [TInDef.enc_eq] at ok
  simp only [okL] at ok
  rw [eq_laws_szInDef]
  simp only [E_laws_szInDef, List.getD_cons_zero, List.getD_cons_succ, DC.bb_b, DC.ii_i, DC.ss_s, DC.ll_sl]
  rw [wsum_InDef]
  have b0 : v.name.length ≤ 9223372036854775807 := by simpa only [DC.ok] using ok.1
  have b1 : v.desc.length ≤ 9223372036854775807 := by simpa only [DC.ok] using ok.2.1
  rw [show IntKind.i64.wrap (left - (v.name.length : Int)) = left - (v.name.length : Int) from wrap64 (by omega) (by omega)]
  by_cases c0 : left < ((v.name.length : Nat) : Int)
  · have c0' : left - ((v.name.length : Nat) : Int) < 0 := by omega
    simp only [c0', decide_true, if_true]
    try rw [szR_lt (by omega)]
  have c0' : ¬ left - ((v.name.length : Nat) : Int) < 0 := by omega
  simp only [c0', decide_false, Bool.false_eq_true, if_false]
  rw [show IntKind.i64.wrap ((left - ((v.name.length : Nat) : Int)) - (v.desc.length : Int)) = (left - ((v.name.length : Nat) : Int)) - (v.desc.length : Int) from wrap64 (by omega) (by omega)]
  by_cases c1 : (left - ((v.name.length : Nat) : Int)) < ((v.desc.length : Nat) : Int)
  · have c1' : (left - ((v.name.length : Nat) : Int)) - ((v.desc.length : Nat) : Int) < 0 := by omega
    simp only [c1', decide_true, if_true]
    try rw [szR_lt (by omega)]
  have c1' : ¬ (left - ((v.name.length : Nat) : Int)) - ((v.desc.length : Nat) : Int) < 0 := by omega
  simp only [c1', decide_false, Bool.false_eq_true, if_false]
  rw [sz_Type v.type' (by rw [TType.enc_eq]; simp only [okL]; exact ⟨ok.2.2.1, ok.2.2.2.1, trivial⟩) (((left - ((v.name.length : Nat) : Int)) - ((v.desc.length : Nat) : Int))) (by omega) (by omega)]
  simp only [Out.bindR_ret, List.getD_cons_zero, List.getD_cons_succ, DC.bb_b, DC.ii_i, DC.ss_s, DC.ll_sl]
  by_cases c2 : ((left - ((v.name.length : Nat) : Int)) - ((v.desc.length : Nat) : Int)) < ((wtL (TType.enc v.type') : Nat) : Int)
  · rw [szR_lt c2]
    simp only [show (-1 : Int) < 0 by omega, decide_true, if_true]
    try rw [szR_lt (by omega)]
  rw [szR_ge c2]
  have c2' : ¬ ((left - ((v.name.length : Nat) : Int)) - ((v.desc.length : Nat) : Int)) - ((wtL (TType.enc v.type') : Nat) : Int) < 0 := by omega
  simp only [c2', decide_false, Bool.false_eq_true, if_false]
  rw [sz_Value v.default' (by rw [TValue.enc_eq]; simp only [okL]; exact ⟨ok.2.2.2.2.2.1, ok.2.2.2.2.2.2.1, ok.2.2.2.2.2.2.2.1, ok.2.2.2.2.2.2.2.2.1, trivial⟩) ((((left - ((v.name.length : Nat) : Int)) - ((v.desc.length : Nat) : Int)) - ((wtL (TType.enc v.type') : Nat) : Int))) (by omega) (by omega)]
  simp only [Out.bindR_ret, List.getD_cons_zero, List.getD_cons_succ, DC.bb_b, DC.ii_i, DC.ss_s, DC.ll_sl]
  by_cases c3 : (((left - ((v.name.length : Nat) : Int)) - ((v.desc.length : Nat) : Int)) - ((wtL (TType.enc v.type') : Nat) : Int)) < ((wtL (TValue.enc v.default') : Nat) : Int)
  · rw [szR_lt c3]
    simp only [show (-1 : Int) < 0 by omega, decide_true, if_true]
    try rw [szR_lt (by omega)]
  rw [szR_ge c3]
  have c3' : ¬ (((left - ((v.name.length : Nat) : Int)) - ((v.desc.length : Nat) : Int)) - ((wtL (TType.enc v.type') : Nat) : Int)) - ((wtL (TValue.enc v.default') : Nat) : Int) < 0 := by omega
  simp only [c3', decide_false, Bool.false_eq_true, if_false]
  rw [szS_Dir v.dirs ok.2.2.2.2.2.2.2.2.2.1 (((((left - ((v.name.length : Nat) : Int)) - ((v.desc.length : Nat) : Int)) - ((wtL (TType.enc v.type') : Nat) : Int)) - ((wtL (TValue.enc v.default') : Nat) : Int))) (by omega) (by omega)]
  simp only [Out.bindR_ret, List.getD_cons_zero, List.getD_cons_succ, DC.bb_b, DC.ii_i, DC.ss_s, DC.ll_sl]
  by_cases c4 : ((((left - ((v.name.length : Nat) : Int)) - ((v.desc.length : Nat) : Int)) - ((wtL (TType.enc v.type') : Nat) : Int)) - ((wtL (TValue.enc v.default') : Nat) : Int)) < ((DC.wt (.sl (v.dirs.map TDir.enc)) : Nat) : Int)
  · rw [szR_lt c4]
    simp only [show (-1 : Int) < 0 by omega, decide_true, if_true]
    try rw [szR_lt (by omega)]
  rw [szR_ge c4]
  have c4' : ¬ ((((left - ((v.name.length : Nat) : Int)) - ((v.desc.length : Nat) : Int)) - ((wtL (TType.enc v.type') : Nat) : Int)) - ((wtL (TValue.enc v.default') : Nat) : Int)) - ((DC.wt (.sl (v.dirs.map TDir.enc)) : Nat) : Int) < 0 := by omega
  simp only [c4', decide_false, Bool.false_eq_true, if_false]
  first
  | done
  | rw [show szR left (v.name.length + v.desc.length + wtL (TType.enc v.type') + wtL (TValue.enc v.default') + DC.wt (.sl (v.dirs.map TDir.enc))) = (((((left - ((v.name.length : Nat) : Int)) - ((v.desc.length : Nat) : Int)) - ((wtL (TType.enc v.type') : Nat) : Int)) - ((wtL (TValue.enc v.default') : Nat) : Int)) - ((DC.wt (.sl (v.dirs.map TDir.enc)) : Nat) : Int)) from (szR_ge (by omega)).trans (by omega)]
theorem szS_InDef' (vs : List TInDef) (hs : ∀ v ∈ vs, okL (TInDef.enc v) → ∀ left : Int, 0 ≤ left → left ≤ 1048576 → r_laws_szInDef [.s v.name, .s v.desc, .s v.type'.name, .s v.type'.wraps, .b v.has', .i v.default'.kind, .s v.default'.text, .sl (v.default'.items.map TValue.enc), .sl (v.default'.names.map S1), .sl (v.dirs.map TDir.enc), .i left] = .ret [.i (szR left (wtL (TInDef.enc v)))]) (ok : (DC.sl (vs.map TInDef.enc)).ok) (left : Int) (h0 : 0 ≤ left) (h1 : left ≤ 1048576) : r_laws_szInDefS [.sl (vs.map TInDef.enc), .i left] = .ret [.i (szR left (DC.wt (.sl (vs.map TInDef.enc))))] := by
  rw [DC.ok, List.length_map] at ok
  obtain ⟨hl, ok⟩ := ok
  rw [eq_laws_szInDefS]
  simp only [E_laws_szInDefS, List.getD_cons_zero, List.getD_cons_succ, DC.bb_b, DC.ii_i, DC.ss_s, DC.ll_sl]
  refine szS_all hl (fun i hi left h0 h1 => ?_) (fun left => ?_) h0 h1
  · have key := hs vs[i] (List.getElem_mem hi) (okV_mem ok _ (List.mem_map_of_mem (List.getElem_mem hi))) left h0 h1
    generalize wtL (TInDef.enc vs[i]) = w at key ⊢
    have hc1 : (i : Int) < (vs.length : Int) := by omega
    simp only [E_laws_szInDefSL1, List.getD_cons_zero, List.getD_cons_succ, DC.bb_b, DC.ii_i, DC.ss_s, DC.ll_sl, Int.toNat_natCast, List.length_map, map_getD hi, TInDef.enc_eq, key, Out.bindR_ret]
    by_cases hc : left < (w : Int)
    · simp [hi, hc1, hc, szR_lt hc]
    · simp [hi, hc1, hc, szR_ge hc, show ¬ left - (w : Int) < 0 by omega, wrap_succ hi hl]
  · simp [E_laws_szInDefSL1]
theorem szS_InDef (vs : List TInDef) (ok : (DC.sl (vs.map TInDef.enc)).ok) (left : Int) (h0 : 0 ≤ left) (h1 : left ≤ 1048576) : r_laws_szInDefS [.sl (vs.map TInDef.enc), .i left] = .ret [.i (szR left (DC.wt (.sl (vs.map TInDef.enc))))] := szS_InDef' vs (fun v _ => sz_InDef v) ok left h0 h1
theorem to_InDef (v : TInDef) : wtL (TInDef.enc v) ≤ 1048576 → r_laws_toInDef [.s v.name, .s v.desc, .s v.type'.name, .s v.type'.wraps, .b v.has', .i v.default'.kind, .s v.default'.text, .sl (v.default'.items.map TValue.enc), .sl (v.default'.names.map S1), .sl (v.dirs.map TDir.enc)] = .ret (TInDef.enc v) := by
  intro hw
  rw [wsum_InDef] at hw
  rw [eq_laws_toInDef]
  simp only [E_laws_toInDef, List.getD_cons_zero, List.getD_cons_succ, DC.bb_b, DC.ii_i, DC.ss_s, DC.ll_sl]
  rw [to_Type v.type' (by omega)]
  simp only [Out.bindR_ret, TType.enc_eq, List.getD_cons_zero, List.getD_cons_succ, DC.bb_b, DC.ii_i, DC.ss_s, DC.ll_sl]
  rw [to_Value v.default' (by omega)]
  simp only [Out.bindR_ret, TValue.enc_eq, List.getD_cons_zero, List.getD_cons_succ, DC.bb_b, DC.ii_i, DC.ss_s, DC.ll_sl]
  rw [toS_Dir v.dirs (by omega)]
  simp only [Out.bindR_ret, List.getD_cons_zero, List.getD_cons_succ, DC.bb_b, DC.ii_i, DC.ss_s, DC.ll_sl]
  rw [TInDef.enc_eq]
theorem toS_InDef' (vs : List TInDef) (hs : ∀ v ∈ vs, wtL (TInDef.enc v) ≤ 1048576 → r_laws_toInDef [.s v.name, .s v.desc, .s v.type'.name, .s v.type'.wraps, .b v.has', .i v.default'.kind, .s v.default'.text, .sl (v.default'.items.map TValue.enc), .sl (v.default'.names.map S1), .sl (v.dirs.map TDir.enc)] = .ret (TInDef.enc v)) (hw : DC.wt (.sl (vs.map TInDef.enc)) ≤ 1048576) : r_laws_toInDefS [.sl (vs.map TInDef.enc)] = .ret [.sl (vs.map TInDef.enc)] := by
  rw [DC.wt, List.length_map] at hw
  have hl : vs.length ≤ 1048576 := by omega
  rw [eq_laws_toInDefS]
  simp only [E_laws_toInDefS, List.getD_cons_zero, List.getD_cons_succ, DC.bb_b, DC.ii_i, DC.ss_s, DC.ll_sl]
  rw [if_pos ⟨by omega, by rw [List.length_map]; exact lim_of hl, trivial, by omega, by omega, rfl⟩, Int.toNat_natCast, List.length_map, show (0 : Int) = ((0 : Nat) : Int) from rfl, toS_loop hl (fun i hi cur h1 h2 => ?_) (fun cur => ?_)]
  · rfl
  · have key := hs vs[i] (List.getElem_mem hi) (by have := wtV_mem (List.mem_map_of_mem (f := TInDef.enc) (List.getElem_mem hi)); omega)
    have hc1 : (i : Int) < (vs.length : Int) := by omega
    simp only [E_laws_toInDefSL1, List.getD_cons_zero, List.getD_cons_succ, DC.bb_b, DC.ii_i, DC.ss_s, DC.ll_sl, Int.toNat_natCast, List.length_map, map_getD hi, h1, h2, TInDef.enc_eq] at key ⊢
    simp only [key, List.getD_cons_zero, List.getD_cons_succ, DC.bb_b, DC.ii_i, DC.ss_s, DC.ll_sl, Out.bindR_ret]
    simp [hi, hc1, wrap_succ hi (show vs.length ≤ 9223372036854775807 by omega), setRunD]
  · simp [E_laws_toInDefSL1]
theorem toS_InDef (vs : List TInDef) (hw : DC.wt (.sl (vs.map TInDef.enc)) ≤ 1048576) : r_laws_toInDefS [.sl (vs.map TInDef.enc)] = .ret [.sl (vs.map TInDef.enc)] := toS_InDef' vs (fun v _ => to_InDef v) hw
theorem eq_InDef (v : TInDef) : wtL (TInDef.enc v) ≤ 1048576 → r_laws_eqInDef [.s v.name, .s v.desc, .s v.type'.name, .s v.type'.wraps, .b v.has', .i v.default'.kind, .s v.default'.text, .sl (v.default'.items.map TValue.enc), .sl (v.default'.names.map S1), .sl (v.dirs.map TDir.enc), .s v.name, .s v.desc, .s v.type'.name, .s v.type'.wraps, .b v.has', .i v.default'.kind, .s v.default'.text, .sl (v.default'.items.map TValue.enc), .sl (v.default'.names.map S1), .sl (v.dirs.map TDir.enc)] = .ret [.b true] := by
  intro hw
  rw [wsum_InDef] at hw
  rw [eq_laws_eqInDef]
  simp only [E_laws_eqInDef, List.getD_cons_zero, List.getD_cons_succ, DC.bb_b, DC.ii_i, DC.ss_s, DC.ll_sl, bne_self_eq_false, beq_self_eq_true, Bool.not_true, Bool.false_eq_true, if_false]
  rw [eq_Type v.type' (by omega)]
  simp only [Out.bindR_ret, List.getD_cons_zero, List.getD_cons_succ, DC.bb_b, DC.ii_i, DC.ss_s, DC.ll_sl, bne_self_eq_false, beq_self_eq_true, Bool.not_true, Bool.false_eq_true, if_false]
  rw [eq_Value v.default' (by omega)]
  simp only [Out.bindR_ret, List.getD_cons_zero, List.getD_cons_succ, DC.bb_b, DC.ii_i, DC.ss_s, DC.ll_sl, bne_self_eq_false, beq_self_eq_true, Bool.not_true, Bool.false_eq_true, if_false]
  rw [eqS_Dir v.dirs (by omega)]
  simp only [Out.bindR_ret, List.getD_cons_zero, List.getD_cons_succ, DC.bb_b, DC.ii_i, DC.ss_s, DC.ll_sl, bne_self_eq_false, beq_self_eq_true, Bool.not_true, Bool.false_eq_true, if_false]
theorem eqS_InDef' (vs : List TInDef) (hs : ∀ v ∈ vs, wtL (TInDef.enc v) ≤ 1048576 → r_laws_eqInDef [.s v.name, .s v.desc, .s v.type'.name, .s v.type'.wraps, .b v.has', .i v.default'.kind, .s v.default'.text, .sl (v.default'.items.map TValue.enc), .sl (v.default'.names.map S1), .sl (v.dirs.map TDir.enc), .s v.name, .s v.desc, .s v.type'.name, .s v.type'.wraps, .b v.has', .i v.default'.kind, .s v.default'.text, .sl (v.default'.items.map TValue.enc), .sl (v.default'.names.map S1), .sl (v.dirs.map TDir.enc)] = .ret [.b true]) (hw : DC.wt (.sl (vs.map TInDef.enc)) ≤ 1048576) : r_laws_eqInDefS [.sl (vs.map TInDef.enc), .sl (vs.map TInDef.enc)] = .ret [.b true] := by
  rw [DC.wt, List.length_map] at hw
  have hl : vs.length ≤ 1048576 := by omega
  rw [eq_laws_eqInDefS]
  simp only [E_laws_eqInDefS, List.getD_cons_zero, List.getD_cons_succ, DC.bb_b, DC.ii_i, DC.ss_s, DC.ll_sl]
  refine eqS_all (fun i hi => ?_) ?_
  · rw [List.length_map] at hi
    have key := hs vs[i] (List.getElem_mem hi) (by have := wtV_mem (List.mem_map_of_mem (f := TInDef.enc) (List.getElem_mem hi)); omega)
    have hc1 : (i : Int) < (vs.length : Int) := by omega
    simp only [E_laws_eqInDefSL1, List.getD_cons_zero, List.getD_cons_succ, DC.bb_b, DC.ii_i, DC.ss_s, DC.ll_sl, Int.toNat_natCast, List.length_map, map_getD hi, TInDef.enc_eq] at key ⊢
    simp only [key, List.getD_cons_zero, List.getD_cons_succ, DC.bb_b, DC.ii_i, DC.ss_s, DC.ll_sl, Out.bindR_ret]
    simp [hi, hc1, wrap_succ hi (show vs.length ≤ 9223372036854775807 by omega)]
  · simp [E_laws_eqInDefSL1]
theorem eqS_InDef (vs : List TInDef) (hw : DC.wt (.sl (vs.map TInDef.enc)) ≤ 1048576) : r_laws_eqInDefS [.sl (vs.map TInDef.enc), .sl (vs.map TInDef.enc)] = .ret [.b true] := eqS_InDef' vs (fun v _ => eq_InDef v) hw
theorem wsum_FieldDef (v : TFieldDef) : wtL (TFieldDef.enc v) = v.name.length + v.desc.length + DC.wt (.sl (v.args.map TInDef.enc)) + wtL (TType.enc v.type') + DC.wt (.sl (v.dirs.map TDir.enc)) := by
  simp only [TFieldDef.enc_eq, wtL, DC.wt, TType.enc_eq]
  try omega
theorem sz_FieldDef (v : TFieldDef) : okL (TFieldDef.enc v) → ∀ left : Int, 0 ≤ left → left ≤ 1048576 → r_laws_szFieldDef [.s v.name, .s v.desc, .sl (v.args.map TInDef.enc), .s v.type'.name, .s v.type'.wraps, .sl (v.dirs.map TDir.enc), .i left] = .ret [.i (szR left (wtL (TFieldDef.enc v)))] := by
  intro ok left h0 h1
  rw [TFieldDef.enc_eq] at ok
  simp only [okL] at ok
  rw [eq_laws_szFieldDef]
  simp only [E_laws_szFieldDef, List.getD_cons_zero, List.getD_cons_succ, DC.bb_b, DC.ii_i, DC.ss_s, DC.ll_sl]
  rw [wsum_FieldDef]
  have b0 : v.name.length ≤ 9223372036854775807 := by simpa only [DC.ok] using ok.1
  have b1 : v.desc.length ≤ 9223372036854775807 := by simpa only [DC.ok] using ok.2.1
  rw [show IntKind.i64.wrap (left - (v.name.length : Int)) = left - (v.name.length : Int) from wrap64 (by omega) (by omega)]
  by_cases c0 : left < ((v.name.length : Nat) : Int)
  · have c0' : left - ((v.name.length : Nat) : Int) < 0 := by omega
    simp only [c0', decide_true, if_true]
    try rw [szR_lt (by omega)]
  have c0' : ¬ left - ((v.name.length : Nat) : Int) < 0 := by omega
  simp only [c0', decide_false, Bool.false_eq_true, if_false]
  rw [show IntKind.i64.wrap ((left - ((v.name.length : Nat) : Int)) - (v.desc.length : Int)) = (left - ((v.name.length : Nat) : Int)) - (v.desc.length : Int) from wrap64 (by omega) (by omega)]
  by_cases c1 : (left - ((v.name.length : Nat) : Int)) < ((v.desc.length : Nat) : Int)
  · have c1' : (left - ((v.name.length : Nat) : Int)) - ((v.desc.length : Nat) : Int) < 0 := by omega
    simp only [c1', decide_true, if_true]
    try rw [szR_lt (by omega)]
  have c1' : ¬ (left - ((v.name.length : Nat) : Int)) - ((v.desc.length : Nat) : Int) < 0 := by omega
  simp only [c1', decide_false, Bool.false_eq_true, if_false]
  rw [szS_InDef v.args ok.2.2.1 (((left - ((v.name.length : Nat) : Int)) - ((v.desc.length : Nat) : Int))) (by omega) (by omega)]
  simp only [Out.bindR_ret, List.getD_cons_zero, List.getD_cons_succ, DC.bb_b, DC.ii_i, DC.ss_s, DC.ll_sl]
  by_cases c2 : ((left - ((v.name.length : Nat) : Int)) - ((v.desc.length : Nat) : Int)) < ((DC.wt (.sl (v.args.map TInDef.enc)) : Nat) : Int)
  · rw [szR_lt c2]
    simp only [show (-1 : Int) < 0 by omega, decide_true, if_true]
    try rw [szR_lt (by omega)]
  rw [szR_ge c2]
  have c2' : ¬ ((left - ((v.name.length : Nat) : Int)) - ((v.desc.length : Nat) : Int)) - ((DC.wt (.sl (v.args.map TInDef.enc)) : Nat) : Int) < 0 := by omega
  simp only [c2', decide_false, Bool.false_eq_true, if_false]
  rw [sz_Type v.type' (by rw [TType.enc_eq]; simp only [okL]; exact ⟨ok.2.2.2.1, ok.2.2.2.2.1, trivial⟩) ((((left - ((v.name.length : Nat) : Int)) - ((v.desc.length : Nat) : Int)) - ((DC.wt (.sl (v.args.map TInDef.enc)) : Nat) : Int))) (by omega) (by omega)]
  simp only [Out.bindR_ret, List.getD_cons_zero, List.getD_cons_succ, DC.bb_b, DC.ii_i, DC.ss_s, DC.ll_sl]
  by_cases c3 : (((left - ((v.name.length : Nat) : Int)) - ((v.desc.length : Nat) : Int)) - ((DC.wt (.sl (v.args.map TInDef.enc)) : Nat) : Int)) < ((wtL (TType.enc v.type') : Nat) : Int)
  · rw [szR_lt c3]
    simp only [show (-1 : Int) < 0 by omega, decide_true, if_true]
    try rw [szR_lt (by omega)]
  rw [szR_ge c3]
  have c3' : ¬ (((left - ((v.name.length : Nat) : Int)) - ((v.desc.length : Nat) : Int)) - ((DC.wt (.sl (v.args.map TInDef.enc)) : Nat) : Int)) - ((wtL (TType.enc v.type') : Nat) : Int) < 0 := by omega
  simp only [c3', decide_false, Bool.false_eq_true, if_false]
  rw [szS_Dir v.dirs ok.2.2.2.2.2.1 (((((left - ((v.name.length : Nat) : Int)) - ((v.desc.length : Nat) : Int)) - ((DC.wt (.sl (v.args.map TInDef.enc)) : Nat) : Int)) - ((wtL (TType.enc v.type') : Nat) : Int))) (by omega) (by omega)]
  simp only [Out.bindR_ret, List.getD_cons_zero, List.getD_cons_succ, DC.bb_b, DC.ii_i, DC.ss_s, DC.ll_sl]
  by_cases c4 : ((((left - ((v.name.length : Nat) : Int)) - ((v.desc.length : Nat) : Int)) - ((DC.wt (.sl (v.args.map TInDef.enc)) : Nat) : Int)) - ((wtL (TType.enc v.type') : Nat) : Int)) < ((DC.wt (.sl (v.dirs.map TDir.enc)) : Nat) : Int)
  · rw [szR_lt c4]
    simp only [show (-1 : Int) < 0 by omega, decide_true, if_true]
    try rw [szR_lt (by omega)]
  rw [szR_ge c4]
  have c4' : ¬ ((((left - ((v.name.length : Nat) : Int)) - ((v.desc.length : Nat) : Int)) - ((DC.wt (.sl (v.args.map TInDef.enc)) : Nat) : Int)) - ((wtL (TType.enc v.type') : Nat) : Int)) - ((DC.wt (.sl (v.dirs.map TDir.enc)) : Nat) : Int) < 0 := by omega
  simp only [c4', decide_false, Bool.false_eq_true, if_false]
  first
  | done
  | rw [show szR left (v.name.length + v.desc.length + DC.wt (.sl (v.args.map TInDef.enc)) + wtL (TType.enc v.type') + DC.wt (.sl (v.dirs.map TDir.enc))) = (((((left - ((v.name.length : Nat) : Int)) - ((v.desc.length : Nat) : Int)) - ((DC.wt (.sl (v.args.map TInDef.enc)) : Nat) : Int)) - ((wtL (TType.enc v.type') : Nat) : Int)) - ((DC.wt (.sl (v.dirs.map TDir.enc)) : Nat) : Int)) from (szR_ge (by omega)).trans (by omega)]
theorem szS_FieldDef' (vs : List TFieldDef) (hs : ∀ v ∈ vs, okL (TFieldDef.enc v) → ∀ left : Int, 0 ≤ left → left ≤ 1048576 → r_laws_szFieldDef [.s v.name, .s v.desc, .sl (v.args.map TInDef.enc), .s v.type'.name, .s v.type'.wraps, .sl (v.dirs.map TDir.enc), .i left] = .ret [.i (szR left (wtL (TFieldDef.enc v)))]) (ok : (DC.sl (vs.map TFieldDef.enc)).ok) (left : Int) (h0 : 0 ≤ left) (h1 : left ≤ 1048576) : r_laws_szFieldDefS [.sl (vs.map TFieldDef.enc), .i left] = .ret [.i (szR left (DC.wt (.sl (vs.map TFieldDef.enc))))] := by
  rw [DC.ok, List.length_map] at ok
  obtain ⟨hl, ok⟩ := ok
  rw [eq_laws_szFieldDefS]
  simp only [E_laws_szFieldDefS, List.getD_cons_zero, List.getD_cons_succ, DC.bb_b, DC.ii_i, DC.ss_s, DC.ll_sl]
  refine szS_all hl (fun i hi left h0 h1 => ?_) (fun left => ?_) h0 h1
  · have key := hs vs[i] (List.getElem_mem hi) (okV_mem ok _ (List.mem_map_of_mem (List.getElem_mem hi))) left h0 h1
    generalize wtL (TFieldDef.enc vs[i]) = w at key ⊢
    have hc1 : (i : Int) < (vs.length : Int) := by omega
    simp only [E_laws_szFieldDefSL1, List.getD_cons_zero, List.getD_cons_succ, DC.bb_b, DC.ii_i, DC.ss_s, DC.ll_sl, Int.toNat_natCast, List.length_map, map_getD hi, TFieldDef.enc_eq, key, Out.bindR_ret]
    by_cases hc : left < (w : Int)
    · simp [hi, hc1, hc, szR_lt hc]
    · simp [hi, hc1, hc, szR_ge hc, show ¬ left - (w : Int) < 0 by omega, wrap_succ hi hl]
  · simp [E_laws_szFieldDefSL1]
theorem szS_FieldDef (vs : List TFieldDef) (ok : (DC.sl (vs.map TFieldDef.enc)).ok) (left : Int) (h0 : 0 ≤ left) (h1 : left ≤ 1048576) : r_laws_szFieldDefS [.sl (vs.map TFieldDef.enc), .i left] = .ret [.i (szR left (DC.wt (.sl (vs.map TFieldDef.enc))))] := szS_FieldDef' vs (fun v _ => sz_FieldDef v) ok left h0 h1
theorem to_FieldDef (v : TFieldDef) : wtL (TFieldDef.enc v) ≤ 1048576 → r_laws_toFieldDef [.s v.name, .s v.desc, .sl (v.args.map TInDef.enc), .s v.type'.name, .s v.type'.wraps, .sl (v.dirs.map TDir.enc)] = .ret (TFieldDef.enc v) := by
  intro hw
  rw [wsum_FieldDef] at hw
  rw [eq_laws_toFieldDef]
  simp only [E_laws_toFieldDef, List.getD_cons_zero, List.getD_cons_succ, DC.bb_b, DC.ii_i, DC.ss_s, DC.ll_sl]
  rw [toS_InDef v.args (by omega)]
  simp only [Out.bindR_ret, List.getD_cons_zero, List.getD_cons_succ, DC.bb_b, DC.ii_i, DC.ss_s, DC.ll_sl]
  rw [to_Type v.type' (by omega)]
  simp only [Out.bindR_ret, TType.enc_eq, List.getD_cons_zero, List.getD_cons_succ, DC.bb_b, DC.ii_i, DC.ss_s, DC.ll_sl]
  rw [toS_Dir v.dirs (by omega)]
  simp only [Out.bindR_ret, List.getD_cons_zero, List.getD_cons_succ, DC.bb_b, DC.ii_i, DC.ss_s, DC.ll_sl]
  rw [TFieldDef.enc_eq]
theorem toS_FieldDef' (vs : List TFieldDef) (hs : ∀ v ∈ vs, wtL (TFieldDef.enc v) ≤ 1048576 → r_laws_toFieldDef [.s v.name, .s v.desc, .sl (v.args.map TInDef.enc), .s v.type'.name, .s v.type'.wraps, .sl (v.dirs.map TDir.enc)] = .ret (TFieldDef.enc v)) (hw : DC.wt (.sl (vs.map TFieldDef.enc)) ≤ 1048576) : r_laws_toFieldDefS [.sl (vs.map TFieldDef.enc)] = .ret [.sl (vs.map TFieldDef.enc)] := by
  rw [DC.wt, List.length_map] at hw
  have hl : vs.length ≤ 1048576 := by omega
  rw [eq_laws_toFieldDefS]
  simp only [E_laws_toFieldDefS, List.getD_cons_zero, List.getD_cons_succ, DC.bb_b, DC.ii_i, DC.ss_s, DC.ll_sl]
  rw [if_pos ⟨by omega, by rw [List.length_map]; exact lim_of hl, trivial, by omega, by omega, rfl⟩, Int.toNat_natCast, List.length_map, show (0 : Int) = ((0 : Nat) : Int) from rfl, toS_loop hl (fun i hi cur h1 h2 => ?_) (fun cur => ?_)]
  · rfl
  · have key := hs vs[i] (List.getElem_mem hi) (by have := wtV_mem (List.mem_map_of_mem (f := TFieldDef.enc) (List.getElem_mem hi)); omega)
    have hc1 : (i : Int) < (vs.length : Int) := by omega
    simp only [E_laws_toFieldDefSL1, List.getD_cons_zero, List.getD_cons_succ, DC.bb_b, DC.ii_i, DC.ss_s, DC.ll_sl, Int.toNat_natCast, List.length_map, map_getD hi, h1, h2, TFieldDef.enc_eq] at key ⊢
    simp only [key, List.getD_cons_zero, List.getD_cons_succ, DC.bb_b, DC.ii_i, DC.ss_s, DC.ll_sl, Out.bindR_ret]
    simp [hi, hc1, wrap_succ hi (show vs.length ≤ 9223372036854775807 by omega), setRunD]
  · simp [E_laws_toFieldDefSL1]
theorem toS_FieldDef (vs : List TFieldDef) (hw : DC.wt (.sl (vs.map TFieldDef.enc)) ≤ 1048576) : r_laws_toFieldDefS [.sl (vs.map TFieldDef.enc)] = .ret [.sl (vs.map TFieldDef.enc)] := toS_FieldDef' vs (fun v _ => to_FieldDef v) hw
theorem eq_FieldDef (v : TFieldDef) : wtL (TFieldDef.enc v) ≤ 1048576 → r_laws_eqFieldDef [.s v.name, .s v.desc, .sl (v.args.map TInDef.enc), .s v.type'.name, .s v.type'.wraps, .sl (v.dirs.map TDir.enc), .s v.name, .s v.desc, .sl (v.args.map TInDef.enc), .s v.type'.name, .s v.type'.wraps, .sl (v.dirs.map TDir.enc)] = .ret [.b true] := by
  intro hw
  rw [wsum_FieldDef] at hw
  rw [eq_laws_eqFieldDef]
  simp only [E_laws_eqFieldDef, List.getD_cons_zero, List.getD_cons_succ, DC.bb_b, DC.ii_i, DC.ss_s, DC.ll_sl, bne_self_eq_false, beq_self_eq_true, Bool.not_true, Bool.false_eq_true, if_false]
  rw [eqS_InDef v.args (by omega)]
  simp only [Out.bindR_ret, List.getD_cons_zero, List.getD_cons_succ, DC.bb_b, DC.ii_i, DC.ss_s, DC.ll_sl, bne_self_eq_false, beq_self_eq_true, Bool.not_true, Bool.false_eq_true, if_false]
  rw [eq_Type v.type' (by omega)]
  simp only [Out.bindR_ret, List.getD_cons_zero, List.getD_cons_succ, DC.bb_b, DC.ii_i, DC.ss_s, DC.ll_sl, bne_self_eq_false, beq_self_eq_true, Bool.not_true, Bool.false_eq_true, if_false]
  rw [eqS_Dir v.dirs (by omega)]
  simp only [Out.bindR_ret, List.getD_cons_zero, List.getD_cons_succ, DC.bb_b, DC.ii_i, DC.ss_s, DC.ll_sl, bne_self_eq_false, beq_self_eq_true, Bool.not_true, Bool.false_eq_true, if_false]
theorem eqS_FieldDef' (vs : List TFieldDef) (hs : ∀ v ∈ vs, wtL (TFieldDef.enc v) ≤ 1048576 → r_laws_eqFieldDef [.s v.name, .s v.desc, .sl (v.args.map TInDef.enc), .s v.type'.name, .s v.type'.wraps, .sl (v.dirs.map TDir.enc), .s v.name, .s v.desc, .sl (v.args.map TInDef.enc), .s v.type'.name, .s v.type'.wraps, .sl (v.dirs.map TDir.enc)] = .ret [.b true]) (hw : DC.wt (.sl (vs.map TFieldDef.enc)) ≤ 1048576) : r_laws_eqFieldDefS [.sl (vs.map TFieldDef.enc), .sl (vs.map TFieldDef.enc)] = .ret [.b true] := by
  rw [DC.wt, List.length_map] at hw
  have hl : vs.length ≤ 1048576 := by omega
  rw [eq_laws_eqFieldDefS]
  simp only [E_laws_eqFieldDefS, List.getD_cons_zero, List.getD_cons_succ, DC.bb_b, DC.ii_i, DC.ss_s, DC.ll_sl]
  refine eqS_all (fun i hi => ?_) ?_
  · rw [List.length_map] at hi
    have key := hs vs[i] (List.getElem_mem hi) (by have := wtV_mem (List.mem_map_of_mem (f := TFieldDef.enc) (List.getElem_mem hi)); omega)
    have hc1 : (i : Int) < (vs.length : Int) := by omega
    simp only [E_laws_eqFieldDefSL1, List.getD_cons_zero, List.getD_cons_succ, DC.bb_b, DC.ii_i, DC.ss_s, DC.ll_sl, Int.toNat_natCast, List.length_map, map_getD hi, TFieldDef.enc_eq] at key ⊢
    simp only [key, List.getD_cons_zero, List.getD_cons_succ, DC.bb_b, DC.ii_i, DC.ss_s, DC.ll_sl, Out.bindR_ret]
    simp [hi, hc1, wrap_succ hi (show vs.length ≤ 9223372036854775807 by omega)]
  · simp [E_laws_eqFieldDefSL1]
theorem eqS_FieldDef (vs : List TFieldDef) (hw : DC.wt (.sl (vs.map TFieldDef.enc)) ≤ 1048576) : r_laws_eqFieldDefS [.sl (vs.map TFieldDef.enc), .sl (vs.map TFieldDef.enc)] = .ret [.b true] := eqS_FieldDef' vs (fun v _ => eq_FieldDef v) hw
theorem wsum_EnumDef (v : TEnumDef) : wtL (TEnumDef.enc v) = v.name.length + v.desc.length + DC.wt (.sl (v.dirs.map TDir.enc)) := by
  simp only [TEnumDef.enc_eq, wtL, DC.wt]
  try omega
theorem sz_EnumDef (v : TEnumDef) : okL (TEnumDef.enc v) → ∀ left : Int, 0 ≤ left → left ≤ 1048576 → r_laws_szEnumDef [.s v.name, .s v.desc, .sl (v.dirs.map TDir.enc), .i left] = .ret [.i (szR left (wtL (TEnumDef.enc v)))] := by
  intro ok left h0 h1
  rw [TEnumDef.enc_eq] at ok
  simp only [okL] at ok
  rw [eq_laws_szEnumDef]
  simp only [E_laws_szEnumDef, List.getD_cons_zero, List.getD_cons_succ, DC.bb_b, DC.ii_i, DC.ss_s, DC.ll_sl]
  rw [wsum_EnumDef]
  have b0 : v.name.length ≤ 9223372036854775807 := by simpa only [DC.ok] using ok.1
  have b1 : v.desc.length ≤ 9223372036854775807 := by simpa only [DC.ok] using ok.2.1
  rw [show IntKind.i64.wrap (left - (v.name.length : Int)) = left - (v.name.length : Int) from wrap64 (by omega) (by omega)]
  by_cases c0 : left < ((v.name.length : Nat) : Int)
  · have c0' : left - ((v.name.length : Nat) : Int) < 0 := by omega
    simp only [c0', decide_true, if_true]
    try rw [szR_lt (by omega)]
  have c0' : ¬ left - ((v.name.length : Nat) : Int) < 0 := by omega
  simp only [c0', decide_false, Bool.false_eq_true, if_false]
  rw [show IntKind.i64.wrap ((left - ((v.name.length : Nat) : Int)) - (v.desc.length : Int)) = (left - ((v.name.length : Nat) : Int)) - (v.desc.length : Int) from wrap64 (by omega) (by omega)]
  by_cases c1 : (left - ((v.name.length : Nat) : Int)) < ((v.desc.length : Nat) : Int)
  · have c1' : (left - ((v.name.length : Nat) : Int)) - ((v.desc.length : Nat) : Int) < 0 := by omega
    simp only [c1', decide_true, if_true]
    try rw [szR_lt (by omega)]
  have c1' : ¬ (left - ((v.name.length : Nat) : Int)) - ((v.desc.length : Nat) : Int) < 0 := by omega
  simp only [c1', decide_false, Bool.false_eq_true, if_false]
  rw [szS_Dir v.dirs ok.2.2.1 (((left - ((v.name.length : Nat) : Int)) - ((v.desc.length : Nat) : Int))) (by omega) (by omega)]
  simp only [Out.bindR_ret, List.getD_cons_zero, List.getD_cons_succ, DC.bb_b, DC.ii_i, DC.ss_s, DC.ll_sl]
  by_cases c2 : ((left - ((v.name.length : Nat) : Int)) - ((v.desc.length : Nat) : Int)) < ((DC.wt (.sl (v.dirs.map TDir.enc)) : Nat) : Int)
  · rw [szR_lt c2]
    simp only [show (-1 : Int) < 0 by omega, decide_true, if_true]
    try rw [szR_lt (by omega)]
  rw [szR_ge c2]
  have c2' : ¬ ((left - ((v.name.length : Nat) : Int)) - ((v.desc.length : Nat) : Int)) - ((DC.wt (.sl (v.dirs.map TDir.enc)) : Nat) : Int) < 0 := by omega
  simp only [c2', decide_false, Bool.false_eq_true, if_false]
  first
  | done
  | rw [show szR left (v.name.length + v.desc.length + DC.wt (.sl (v.dirs.map TDir.enc))) = (((left - ((v.name.length : Nat) : Int)) - ((v.desc.length : Nat) : Int)) - ((DC.wt (.sl (v.dirs.map TDir.enc)) : Nat) : Int)) from (szR_ge (by omega)).trans (by omega)]
theorem szS_EnumDef' (vs : List TEnumDef) (hs : ∀ v ∈ vs, okL (TEnumDef.enc v) → ∀ left : Int, 0 ≤ left → left ≤ 1048576 → r_laws_szEnumDef [.s v.name, .s v.desc, .sl (v.dirs.map TDir.enc), .i left] = .ret [.i (szR left (wtL (TEnumDef.enc v)))]) (ok : (DC.sl (vs.map TEnumDef.enc)).ok) (left : Int) (h0 : 0 ≤ left) (h1 : left ≤ 1048576) : r_laws_szEnumDefS [.sl (vs.map TEnumDef.enc), .i left] = .ret [.i (szR left (DC.wt (.sl (vs.map TEnumDef.enc))))] := by
  rw [DC.ok, List.length_map] at ok
  obtain ⟨hl, ok⟩ := ok
  rw [eq_laws_szEnumDefS]
  simp only [E_laws_szEnumDefS, List.getD_cons_zero, List.getD_cons_succ, DC.bb_b, DC.ii_i, DC.ss_s, DC.ll_sl]
  refine szS_all hl (fun i hi left h0 h1 => ?_) (fun left => ?_) h0 h1
  · have key := hs vs[i] (List.getElem_mem hi) (okV_mem ok _ (List.mem_map_of_mem (List.getElem_mem hi))) left h0 h1
    generalize wtL (TEnumDef.enc vs[i]) = w at key ⊢
    have hc1 : (i : Int) < (vs.length : Int) := by omega
    simp only [E_laws_szEnumDefSL1, List.getD_cons_zero, List.getD_cons_succ, DC.bb_b, DC.ii_i, DC.ss_s, DC.ll_sl, Int.toNat_natCast, List.length_map, map_getD hi, TEnumDef.enc_eq, key, Out.bindR_ret]
    by_cases hc : left < (w : Int)
    · simp [hi, hc1, hc, szR_lt hc]
    · simp [hi, hc1, hc, szR_ge hc, show ¬ left - (w : Int) < 0 by omega, wrap_succ hi hl]
  · simp [E_laws_szEnumDefSL1]
theorem szS_EnumDef (vs : List TEnumDef) (ok : (DC.sl (vs.map TEnumDef.enc)).ok) (left : Int) (h0 : 0 ≤ left) (h1 : left ≤ 1048576) : r_laws_szEnumDefS [.sl (vs.map TEnumDef.enc), .i left] = .ret [.i (szR left (DC.wt (.sl (vs.map TEnumDef.enc))))] := szS_EnumDef' vs (fun v _ => sz_EnumDef v) ok left h0 h1
theorem to_EnumDef (v : TEnumDef) : wtL (TEnumDef.enc v) ≤ 1048576 → r_laws_toEnumDef [.s v.name, .s v.desc, .sl (v.dirs.map TDir.enc)] = .ret (TEnumDef.enc v) := by
  intro hw
  rw [wsum_EnumDef] at hw
  rw [eq_laws_toEnumDef]
  simp only [E_laws_toEnumDef, List.getD_cons_zero, List.getD_cons_succ, DC.bb_b, DC.ii_i, DC.ss_s, DC.ll_sl]
  rw [toS_Dir v.dirs (by omega)]
  simp only [Out.bindR_ret, List.getD_cons_zero, List.getD_cons_succ, DC.bb_b, DC.ii_i, DC.ss_s, DC.ll_sl]
  rw [TEnumDef.enc_eq]
theorem toS_EnumDef' (vs : List TEnumDef) (hs : ∀ v ∈ vs, wtL (TEnumDef.enc v) ≤ 1048576 → r_laws_toEnumDef [.s v.name, .s v.desc, .sl (v.dirs.map TDir.enc)] = .ret (TEnumDef.enc v)) (hw : DC.wt (.sl (vs.map TEnumDef.enc)) ≤ 1048576) : r_laws_toEnumDefS [.sl (vs.map TEnumDef.enc)] = .ret [.sl (vs.map TEnumDef.enc)] := by
  rw [DC.wt, List.length_map] at hw
  have hl : vs.length ≤ 1048576 := by omega
  rw [eq_laws_toEnumDefS]
  simp only [E_laws_toEnumDefS, List.getD_cons_zero, List.getD_cons_succ, DC.bb_b, DC.ii_i, DC.ss_s, DC.ll_sl]
  rw [if_pos ⟨by omega, by rw [List.length_map]; exact lim_of hl, trivial, by omega, by omega, rfl⟩, Int.toNat_natCast, List.length_map, show (0 : Int) = ((0 : Nat) : Int) from rfl, toS_loop hl (fun i hi cur h1 h2 => ?_) (fun cur => ?_)]
  · rfl
  · have key := hs vs[i] (List.getElem_mem hi) (by have := wtV_mem (List.mem_map_of_mem (f := TEnumDef.enc) (List.getElem_mem hi)); omega)
    have hc1 : (i : Int) < (vs.length : Int) := by omega
    simp only [E_laws_toEnumDefSL1, List.getD_cons_zero, List.getD_cons_succ, DC.bb_b, DC.ii_i, DC.ss_s, DC.ll_sl, Int.toNat_natCast, List.length_map, map_getD hi, h1, h2, TEnumDef.enc_eq] at key ⊢
    simp only [key, List.getD_cons_zero, List.getD_cons_succ, DC.bb_b, DC.ii_i, DC.ss_s, DC.ll_sl, Out.bindR_ret]
    simp [hi, hc1, wrap_succ hi (show vs.length ≤ 9223372036854775807 by omega), setRunD]
  · simp [E_laws_toEnumDefSL1]
theorem toS_EnumDef (vs : List TEnumDef) (hw : DC.wt (.sl (vs.map TEnumDef.enc)) ≤ 1048576) : r_laws_toEnumDefS [.sl (vs.map TEnumDef.enc)] = .ret [.sl (vs.map TEnumDef.enc)] := toS_EnumDef' vs (fun v _ => to_EnumDef v) hw
theorem eq_EnumDef (v : TEnumDef) : wtL (TEnumDef.enc v) ≤ 1048576 → r_laws_eqEnumDef [.s v.name, .s v.desc, .sl (v.dirs.map TDir.enc), .s v.name, .s v.desc, .sl (v.dirs.map TDir.enc)] = .ret [.b true] := by
  intro hw
  rw [wsum_EnumDef] at hw
  rw [eq_laws_eqEnumDef]
  simp only [E_laws_eqEnumDef, List.getD_cons_zero, List.getD_cons_succ, DC.bb_b, DC.ii_i, DC.ss_s, DC.ll_sl, bne_self_eq_false, beq_self_eq_true, Bool.not_true, Bool.false_eq_true, if_false]
  rw [eqS_Dir v.dirs (by omega)]
  simp only [Out.bindR_ret, List.getD_cons_zero, List.getD_cons_succ, DC.bb_b, DC.ii_i, DC.ss_s, DC.ll_sl, bne_self_eq_false, beq_self_eq_true, Bool.not_true, Bool.false_eq_true, if_false]
theorem eqS_EnumDef' (vs : List TEnumDef) (hs : ∀ v ∈ vs, wtL (TEnumDef.enc v) ≤ 1048576 → r_laws_eqEnumDef [.s v.name, .s v.desc, .sl (v.dirs.map TDir.enc), .s v.name, .s v.desc, .sl (v.dirs.map TDir.enc)] = .ret [.b true]) (hw : DC.wt (.sl (vs.map TEnumDef.enc)) ≤ 1048576) : r_laws_eqEnumDefS [.sl (vs.map TEnumDef.enc), .sl (vs.map TEnumDef.enc)] = .ret [.b true] := by
  rw [DC.wt, List.length_map] at hw
  have hl : vs.length ≤ 1048576 := by omega
  rw [eq_laws_eqEnumDefS]
  simp only [E_laws_eqEnumDefS, List.getD_cons_zero, List.getD_cons_succ, DC.bb_b, DC.ii_i, DC.ss_s, DC.ll_sl]
  refine eqS_all (fun i hi => ?_) ?_
  · rw [List.length_map] at hi
    have key := hs vs[i] (List.getElem_mem hi) (by have := wtV_mem (List.mem_map_of_mem (f := TEnumDef.enc) (List.getElem_mem hi)); omega)
    have hc1 : (i : Int) < (vs.length : Int) := by omega
    simp only [E_laws_eqEnumDefSL1, List.getD_cons_zero, List.getD_cons_succ, DC.bb_b, DC.ii_i, DC.ss_s, DC.ll_sl, Int.toNat_natCast, List.length_map, map_getD hi, TEnumDef.enc_eq] at key ⊢
    simp only [key, List.getD_cons_zero, List.getD_cons_succ, DC.bb_b, DC.ii_i, DC.ss_s, DC.ll_sl, Out.bindR_ret]
    simp [hi, hc1, wrap_succ hi (show vs.length ≤ 9223372036854775807 by omega)]
  · simp [E_laws_eqEnumDefSL1]
theorem eqS_EnumDef (vs : List TEnumDef) (hw : DC.wt (.sl (vs.map TEnumDef.enc)) ≤ 1048576) : r_laws_eqEnumDefS [.sl (vs.map TEnumDef.enc), .sl (vs.map TEnumDef.enc)] = .ret [.b true] := eqS_EnumDef' vs (fun v _ => eq_EnumDef v) hw
theorem wsum_Root (v : TRoot) : wtL (TRoot.enc v) = v.type'.length := by
  simp only [TRoot.enc_eq, wtL, DC.wt]
  try omega
theorem sz_Root (v : TRoot) : okL (TRoot.enc v) → ∀ left : Int, 0 ≤ left → left ≤ 1048576 → r_laws_szRoot [.i v.kind, .s v.type', .i left] = .ret [.i (szR left (wtL (TRoot.enc v)))] := by
  intro ok left h0 h1
  rw [TRoot.enc_eq] at ok
  simp only [okL] at ok
  rw [eq_laws_szRoot]
  simp only [E_laws_szRoot, List.getD_cons_zero, List.getD_cons_succ, DC.bb_b, DC.ii_i, DC.ss_s, DC.ll_sl]
  rw [wsum_Root]
  have b0 : v.type'.length ≤ 9223372036854775807 := by simpa only [DC.ok] using ok.2.1
  rw [show IntKind.i64.wrap (left - (v.type'.length : Int)) = left - (v.type'.length : Int) from wrap64 (by omega) (by omega)]
  by_cases c0 : left < ((v.type'.length : Nat) : Int)
  · have c0' : left - ((v.type'.length : Nat) : Int) < 0 := by omega
    simp only [c0', decide_true, if_true]
    try rw [szR_lt (by omega)]
  have c0' : ¬ left - ((v.type'.length : Nat) : Int) < 0 := by omega
  simp only [c0', decide_false, Bool.false_eq_true, if_false]
  first
  | done
  | rw [show szR left (v.type'.length) = (left - ((v.type'.length : Nat) : Int)) from (szR_ge (by omega)).trans (by omega)]
theorem szS_Root' (vs : List TRoot) (hs : ∀ v ∈ vs, okL (TRoot.enc v) → ∀ left : Int, 0 ≤ left → left ≤ 1048576 → r_laws_szRoot [.i v.kind, .s v.type', .i left] = .ret [.i (szR left (wtL (TRoot.enc v)))]) (ok : (DC.sl (vs.map TRoot.enc)).ok) (left : Int) (h0 : 0 ≤ left) (h1 : left ≤ 1048576) : r_laws_szRootS [.sl (vs.map TRoot.enc), .i left] = .ret [.i (szR left (DC.wt (.sl (vs.map TRoot.enc))))] := by
  rw [DC.ok, List.length_map] at ok
  obtain ⟨hl, ok⟩ := ok
  rw [eq_laws_szRootS]
  simp only [E_laws_szRootS, List.getD_cons_zero, List.getD_cons_succ, DC.bb_b, DC.ii_i, DC.ss_s, DC.ll_sl]
  refine szS_all hl (fun i hi left h0 h1 => ?_) (fun left => ?_) h0 h1
  · have key := hs vs[i] (List.getElem_mem hi) (okV_mem ok _ (List.mem_map_of_mem (List.getElem_mem hi))) left h0 h1
    generalize wtL (TRoot.enc vs[i]) = w at key ⊢
    have hc1 : (i : Int) < (vs.length : Int) := by omega
    simp only [E_laws_szRootSL1, List.getD_cons_zero, List.getD_cons_succ, DC.bb_b, DC.ii_i, DC.ss_s, DC.ll_sl, Int.toNat_natCast, List.length_map, map_getD hi, TRoot.enc_eq, key, Out.bindR_ret]
    by_cases hc : left < (w : Int)
    · simp [hi, hc1, hc, szR_lt hc]
    · simp [hi, hc1, hc, szR_ge hc, show ¬ left - (w : Int) < 0 by omega, wrap_succ hi hl]
  · simp [E_laws_szRootSL1]
theorem szS_Root (vs : List TRoot) (ok : (DC.sl (vs.map TRoot.enc)).ok) (left : Int) (h0 : 0 ≤ left) (h1 : left ≤ 1048576) : r_laws_szRootS [.sl (vs.map TRoot.enc), .i left] = .ret [.i (szR left (DC.wt (.sl (vs.map TRoot.enc))))] := szS_Root' vs (fun v _ => sz_Root v) ok left h0 h1
theorem to_Root (v : TRoot) : wtL (TRoot.enc v) ≤ 1048576 → r_laws_toRoot [.i v.kind, .s v.type'] = .ret (TRoot.enc v) := by
  intro hw
  rw [wsum_Root] at hw
  rw [eq_laws_toRoot]
  simp only [E_laws_toRoot, List.getD_cons_zero, List.getD_cons_succ, DC.bb_b, DC.ii_i, DC.ss_s, DC.ll_sl]
  rw [TRoot.enc_eq]
theorem toS_Root' (vs : List TRoot) (hs : ∀ v ∈ vs, wtL (TRoot.enc v) ≤ 1048576 → r_laws_toRoot [.i v.kind, .s v.type'] = .ret (TRoot.enc v)) (hw : DC.wt (.sl (vs.map TRoot.enc)) ≤ 1048576) : r_laws_toRootS [.sl (vs.map TRoot.enc)] = .ret [.sl (vs.map TRoot.enc)] := by
  rw [DC.wt, List.length_map] at hw
  have hl : vs.length ≤ 1048576 := by omega
  rw [eq_laws_toRootS]
  simp only [E_laws_toRootS, List.getD_cons_zero, List.getD_cons_succ, DC.bb_b, DC.ii_i, DC.ss_s, DC.ll_sl]
  rw [if_pos ⟨by omega, by rw [List.length_map]; exact lim_of hl, trivial, by omega, by omega, rfl⟩, Int.toNat_natCast, List.length_map, show (0 : Int) = ((0 : Nat) : Int) from rfl, toS_loop hl (fun i hi cur h1 h2 => ?_) (fun cur => ?_)]
  · rfl
  · have key := hs vs[i] (List.getElem_mem hi) (by have := wtV_mem (List.mem_map_of_mem (f := TRoot.enc) (List.getElem_mem hi)); omega)
    have hc1 : (i : Int) < (vs.length : Int) := by omega
    simp only [E_laws_toRootSL1, List.getD_cons_zero, List.getD_cons_succ, DC.bb_b, DC.ii_i, DC.ss_s, DC.ll_sl, Int.toNat_natCast, List.length_map, map_getD hi, h1, h2, TRoot.enc_eq] at key ⊢
    simp only [key, List.getD_cons_zero, List.getD_cons_succ, DC.bb_b, DC.ii_i, DC.ss_s, DC.ll_sl, Out.bindR_ret]
    simp [hi, hc1, wrap_succ hi (show vs.length ≤ 9223372036854775807 by omega), setRunD]
  · simp [E_laws_toRootSL1]
theorem toS_Root (vs : List TRoot) (hw : DC.wt (.sl (vs.map TRoot.enc)) ≤ 1048576) : r_laws_toRootS [.sl (vs.map TRoot.enc)] = .ret [.sl (vs.map TRoot.enc)] := toS_Root' vs (fun v _ => to_Root v) hw
theorem eq_Root (v : TRoot) : wtL (TRoot.enc v) ≤ 1048576 → r_laws_eqRoot [.i v.kind, .s v.type', .i v.kind, .s v.type'] = .ret [.b true] := by
  intro hw
  rw [wsum_Root] at hw
  rw [eq_laws_eqRoot]
  simp only [E_laws_eqRoot, List.getD_cons_zero, List.getD_cons_succ, DC.bb_b, DC.ii_i, DC.ss_s, DC.ll_sl, bne_self_eq_false, beq_self_eq_true, Bool.not_true, Bool.false_eq_true, if_false]
theorem eqS_Root' (vs : List TRoot) (hs : ∀ v ∈ vs, wtL (TRoot.enc v) ≤ 1048576 → r_laws_eqRoot [.i v.kind, .s v.type', .i v.kind, .s v.type'] = .ret [.b true]) (hw : DC.wt (.sl (vs.map TRoot.enc)) ≤ 1048576) : r_laws_eqRootS [.sl (vs.map TRoot.enc), .sl (vs.map TRoot.enc)] = .ret [.b true] := by
  rw [DC.wt, List.length_map] at hw
  have hl : vs.length ≤ 1048576 := by omega
  rw [eq_laws_eqRootS]
  simp only [E_laws_eqRootS, List.getD_cons_zero, List.getD_cons_succ, DC.bb_b, DC.ii_i, DC.ss_s, DC.ll_sl]
  refine eqS_all (fun i hi => ?_) ?_
  · rw [List.length_map] at hi
    have key := hs vs[i] (List.getElem_mem hi) (by have := wtV_mem (List.mem_map_of_mem (f := TRoot.enc) (List.getElem_mem hi)); omega)
    have hc1 : (i : Int) < (vs.length : Int) := by omega
    simp only [E_laws_eqRootSL1, List.getD_cons_zero, List.getD_cons_succ, DC.bb_b, DC.ii_i, DC.ss_s, DC.ll_sl, Int.toNat_natCast, List.length_map, map_getD hi, TRoot.enc_eq] at key ⊢
    simp only [key, List.getD_cons_zero, List.getD_cons_succ, DC.bb_b, DC.ii_i, DC.ss_s, DC.ll_sl, Out.bindR_ret]
    simp [hi, hc1, wrap_succ hi (show vs.length ≤ 9223372036854775807 by omega)]
  · simp [E_laws_eqRootSL1]
theorem eqS_Root (vs : List TRoot) (hw : DC.wt (.sl (vs.map TRoot.enc)) ≤ 1048576) : r_laws_eqRootS [.sl (vs.map TRoot.enc), .sl (vs.map TRoot.enc)] = .ret [.b true] := eqS_Root' vs (fun v _ => eq_Root v) hw
theorem wsum_Def (v : TDef) : wtL (TDef.enc v) = v.desc.length + v.name.length + DC.wt (.sl (v.faces.map S1)) + DC.wt (.sl (v.fields.map TFieldDef.enc)) + DC.wt (.sl (v.inputs.map TInDef.enc)) + DC.wt (.sl (v.values.map TEnumDef.enc)) + DC.wt (.sl (v.roots.map TRoot.enc)) + DC.wt (.sl (v.dirs.map TDir.enc)) := by
  simp only [TDef.enc_eq, wtL, DC.wt]
  try omega
theorem sz_Def (v : TDef) : okL (TDef.enc v) → ∀ left : Int, 0 ≤ left → left ≤ 1048576 → r_laws_szDef [.i v.kind, .b v.ext, .s v.desc, .s v.name, .sl (v.faces.map S1), .sl (v.fields.map TFieldDef.enc), .sl (v.inputs.map TInDef.enc), .sl (v.values.map TEnumDef.enc), .sl (v.roots.map TRoot.enc), .b v.repeat', .sl (v.dirs.map TDir.enc), .i left] = .ret [.i (szR left (wtL (TDef.enc v)))] := by
  intro ok left h0 h1
  rw [TDef.enc_eq] at ok
  simp only [okL] at ok
  rw [eq_laws_szDef]
  simp only [E_laws_szDef, List.getD_cons_zero, List.getD_cons_succ, DC.bb_b, DC.ii_i, DC.ss_s, DC.ll_sl]
  rw [wsum_Def]
  have b0 : v.desc.length ≤ 9223372036854775807 := by simpa only [DC.ok] using ok.2.2.1
  have b1 : v.name.length ≤ 9223372036854775807 := by simpa only [DC.ok] using ok.2.2.2.1
  rw [show IntKind.i64.wrap (left - (v.desc.length : Int)) = left - (v.desc.length : Int) from wrap64 (by omega) (by omega)]
  by_cases c0 : left < ((v.desc.length : Nat) : Int)
  · have c0' : left - ((v.desc.length : Nat) : Int) < 0 := by omega
    simp only [c0', decide_true, if_true]
    try rw [szR_lt (by omega)]
  have c0' : ¬ left - ((v.desc.length : Nat) : Int) < 0 := by omega
  simp only [c0', decide_false, Bool.false_eq_true, if_false]
  rw [show IntKind.i64.wrap ((left - ((v.desc.length : Nat) : Int)) - (v.name.length : Int)) = (left - ((v.desc.length : Nat) : Int)) - (v.name.length : Int) from wrap64 (by omega) (by omega)]
  by_cases c1 : (left - ((v.desc.length : Nat) : Int)) < ((v.name.length : Nat) : Int)
  · have c1' : (left - ((v.desc.length : Nat) : Int)) - ((v.name.length : Nat) : Int) < 0 := by omega
    simp only [c1', decide_true, if_true]
    try rw [szR_lt (by omega)]
  have c1' : ¬ (left - ((v.desc.length : Nat) : Int)) - ((v.name.length : Nat) : Int) < 0 := by omega
  simp only [c1', decide_false, Bool.false_eq_true, if_false]
  rw [szS_String v.faces ok.2.2.2.2.1 (((left - ((v.desc.length : Nat) : Int)) - ((v.name.length : Nat) : Int))) (by omega) (by omega)]
  simp only [Out.bindR_ret, List.getD_cons_zero, List.getD_cons_succ, DC.bb_b, DC.ii_i, DC.ss_s, DC.ll_sl]
  by_cases c2 : ((left - ((v.desc.length : Nat) : Int)) - ((v.name.length : Nat) : Int)) < ((DC.wt (.sl (v.faces.map S1)) : Nat) : Int)
  · rw [szR_lt c2]
    simp only [show (-1 : Int) < 0 by omega, decide_true, if_true]
    try rw [szR_lt (by omega)]
  rw [szR_ge c2]
  have c2' : ¬ ((left - ((v.desc.length : Nat) : Int)) - ((v.name.length : Nat) : Int)) - ((DC.wt (.sl (v.faces.map S1)) : Nat) : Int) < 0 := by omega
  simp only [c2', decide_false, Bool.false_eq_true, if_false]
  rw [szS_FieldDef v.fields ok.2.2.2.2.2.1 ((((left - ((v.desc.length : Nat) : Int)) - ((v.name.length : Nat) : Int)) - ((DC.wt (.sl (v.faces.map S1)) : Nat) : Int))) (by omega) (by omega)]
  simp only [Out.bindR_ret, List.getD_cons_zero, List.getD_cons_succ, DC.bb_b, DC.ii_i, DC.ss_s, DC.ll_sl]
  by_cases c3 : (((left - ((v.desc.length : Nat) : Int)) - ((v.name.length : Nat) : Int)) - ((DC.wt (.sl (v.faces.map S1)) : Nat) : Int)) < ((DC.wt (.sl (v.fields.map TFieldDef.enc)) : Nat) : Int)
  · rw [szR_lt c3]
    simp only [show (-1 : Int) < 0 by omega, decide_true, if_true]
    try rw [szR_lt (by omega)]
  rw [szR_ge c3]
  have c3' : ¬ (((left - ((v.desc.length : Nat) : Int)) - ((v.name.length : Nat) : Int)) - ((DC.wt (.sl (v.faces.map S1)) : Nat) : Int)) - ((DC.wt (.sl (v.fields.map TFieldDef.enc)) : Nat) : Int) < 0 := by omega
  simp only [c3', decide_false, Bool.false_eq_true, if_false]
  rw [szS_InDef v.inputs ok.2.2.2.2.2.2.1 (((((left - ((v.desc.length : Nat) : Int)) - ((v.name.length : Nat) : Int)) - ((DC.wt (.sl (v.faces.map S1)) : Nat) : Int)) - ((DC.wt (.sl (v.fields.map TFieldDef.enc)) : Nat) : Int))) (by omega) (by omega)]
  simp only [Out.bindR_ret, List.getD_cons_zero, List.getD_cons_succ, DC.bb_b, DC.ii_i, DC.ss_s, DC.ll_sl]
  by_cases c4 : ((((left - ((v.desc.length : Nat) : Int)) - ((v.name.length : Nat) : Int)) - ((DC.wt (.sl (v.faces.map S1)) : Nat) : Int)) - ((DC.wt (.sl (v.fields.map TFieldDef.enc)) : Nat) : Int)) < ((DC.wt (.sl (v.inputs.map TInDef.enc)) : Nat) : Int)
  · rw [szR_lt c4]
    simp only [show (-1 : Int) < 0 by omega, decide_true, if_true]
    try rw [szR_lt (by omega)]
  rw [szR_ge c4]
  have c4' : ¬ ((((left - ((v.desc.length : Nat) : Int)) - ((v.name.length : Nat) : Int)) - ((DC.wt (.sl (v.faces.map S1)) : Nat) : Int)) - ((DC.wt (.sl (v.fields.map TFieldDef.enc)) : Nat) : Int)) - ((DC.wt (.sl (v.inputs.map TInDef.enc)) : Nat) : Int) < 0 := by omega
  simp only [c4', decide_false, Bool.false_eq_true, if_false]
  rw [szS_EnumDef v.values ok.2.2.2.2.2.2.2.1 ((((((left - ((v.desc.length : Nat) : Int)) - ((v.name.length : Nat) : Int)) - ((DC.wt (.sl (v.faces.map S1)) : Nat) : Int)) - ((DC.wt (.sl (v.fields.map TFieldDef.enc)) : Nat) : Int)) - ((DC.wt (.sl (v.inputs.map TInDef.enc)) : Nat) : Int))) (by omega) (by omega)]
  simp only [Out.bindR_ret, List.getD_cons_zero, List.getD_cons_succ, DC.bb_b, DC.ii_i, DC.ss_s, DC.ll_sl]
  by_cases c5 : (((((left - ((v.desc.length : Nat) : Int)) - ((v.name.length : Nat) : Int)) - ((DC.wt (.sl (v.faces.map S1)) : Nat) : Int)) - ((DC.wt (.sl (v.fields.map TFieldDef.enc)) : Nat) : Int)) - ((DC.wt (.sl (v.inputs.map TInDef.enc)) : Nat) : Int)) < ((DC.wt (.sl (v.values.map TEnumDef.enc)) : Nat) : Int)
  · rw [szR_lt c5]
    simp only [show (-1 : Int) < 0 by omega, decide_true, if_true]
    try rw [szR_lt (by omega)]
  rw [szR_ge c5]
  have c5' : ¬ (((((left - ((v.desc.length : Nat) : Int)) - ((v.name.length : Nat) : Int)) - ((DC.wt (.sl (v.faces.map S1)) : Nat) : Int)) - ((DC.wt (.sl (v.fields.map TFieldDef.enc)) : Nat) : Int)) - ((DC.wt (.sl (v.inputs.map TInDef.enc)) : Nat) : Int)) - ((DC.wt (.sl (v.values.map TEnumDef.enc)) : Nat) : Int) < 0 := by omega
  simp only [c5', decide_false, Bool.false_eq_true, if_false]
  rw [szS_Root v.roots ok.2.2.2.2.2.2.2.2.1 (((((((left - ((v.desc.length : Nat) : Int)) - ((v.name.length : Nat) : Int)) - ((DC.wt (.sl (v.faces.map S1)) : Nat) : Int)) - ((DC.wt (.sl (v.fields.map TFieldDef.enc)) : Nat) : Int)) - ((DC.wt (.sl (v.inputs.map TInDef.enc)) : Nat) : Int)) - ((DC.wt (.sl (v.values.map TEnumDef.enc)) : Nat) : Int))) (by omega) (by omega)]
  simp only [Out.bindR_ret, List.getD_cons_zero, List.getD_cons_succ, DC.bb_b, DC.ii_i, DC.ss_s, DC.ll_sl]
  by_cases c6 : ((((((left - ((v.desc.length : Nat) : Int)) - ((v.name.length : Nat) : Int)) - ((DC.wt (.sl (v.faces.map S1)) : Nat) : Int)) - ((DC.wt (.sl (v.fields.map TFieldDef.enc)) : Nat) : Int)) - ((DC.wt (.sl (v.inputs.map TInDef.enc)) : Nat) : Int)) - ((DC.wt (.sl (v.values.map TEnumDef.enc)) : Nat) : Int)) < ((DC.wt (.sl (v.roots.map TRoot.enc)) : Nat) : Int)
  · rw [szR_lt c6]
    simp only [show (-1 : Int) < 0 by omega, decide_true, if_true]
    try rw [szR_lt (by omega)]
  rw [szR_ge c6]
  have c6' : ¬ ((((((left - ((v.desc.length : Nat) : Int)) - ((v.name.length : Nat) : Int)) - ((DC.wt (.sl (v.faces.map S1)) : Nat) : Int)) - ((DC.wt (.sl (v.fields.map TFieldDef.enc)) : Nat) : Int)) - ((DC.wt (.sl (v.inputs.map TInDef.enc)) : Nat) : Int)) - ((DC.wt (.sl (v.values.map TEnumDef.enc)) : Nat) : Int)) - ((DC.wt (.sl (v.roots.map TRoot.enc)) : Nat) : Int) < 0 := by omega
  simp only [c6', decide_false, Bool.false_eq_true, if_false]
  rw [szS_Dir v.dirs ok.2.2.2.2.2.2.2.2.2.2.1 ((((((((left - ((v.desc.length : Nat) : Int)) - ((v.name.length : Nat) : Int)) - ((DC.wt (.sl (v.faces.map S1)) : Nat) : Int)) - ((DC.wt (.sl (v.fields.map TFieldDef.enc)) : Nat) : Int)) - ((DC.wt (.sl (v.inputs.map TInDef.enc)) : Nat) : Int)) - ((DC.wt (.sl (v.values.map TEnumDef.enc)) : Nat) : Int)) - ((DC.wt (.sl (v.roots.map TRoot.enc)) : Nat) : Int))) (by omega) (by omega)]
  simp only [Out.bindR_ret, List.getD_cons_zero, List.getD_cons_succ, DC.bb_b, DC.ii_i, DC.ss_s, DC.ll_sl]
  by_cases c7 : (((((((left - ((v.desc.length : Nat) : Int)) - ((v.name.length : Nat) : Int)) - ((DC.wt (.sl (v.faces.map S1)) : Nat) : Int)) - ((DC.wt (.sl (v.fields.map TFieldDef.enc)) : Nat) : Int)) - ((DC.wt (.sl (v.inputs.map TInDef.enc)) : Nat) : Int)) - ((DC.wt (.sl (v.values.map TEnumDef.enc)) : Nat) : Int)) - ((DC.wt (.sl (v.roots.map TRoot.enc)) : Nat) : Int)) < ((DC.wt (.sl (v.dirs.map TDir.enc)) : Nat) : Int)
  · rw [szR_lt c7]
    simp only [show (-1 : Int) < 0 by omega, decide_true, if_true]
    try rw [szR_lt (by omega)]
  rw [szR_ge c7]
  have c7' : ¬ (((((((left - ((v.desc.length : Nat) : Int)) - ((v.name.length : Nat) : Int)) - ((DC.wt (.sl (v.faces.map S1)) : Nat) : Int)) - ((DC.wt (.sl (v.fields.map TFieldDef.enc)) : Nat) : Int)) - ((DC.wt (.sl (v.inputs.map TInDef.enc)) : Nat) : Int)) - ((DC.wt (.sl (v.values.map TEnumDef.enc)) : Nat) : Int)) - ((DC.wt (.sl (v.roots.map TRoot.enc)) : Nat) : Int)) - ((DC.wt (.sl (v.dirs.map TDir.enc)) : Nat) : Int) < 0 := by omega
  simp only [c7', decide_false, Bool.false_eq_true, if_false]
  first
  | done
  | rw [show szR left (v.desc.length + v.name.length + DC.wt (.sl (v.faces.map S1)) + DC.wt (.sl (v.fields.map TFieldDef.enc)) + DC.wt (.sl (v.inputs.map TInDef.enc)) + DC.wt (.sl (v.values.map TEnumDef.enc)) + DC.wt (.sl (v.roots.map TRoot.enc)) + DC.wt (.sl (v.dirs.map TDir.enc))) = ((((((((left - ((v.desc.length : Nat) : Int)) - ((v.name.length : Nat) : Int)) - ((DC.wt (.sl (v.faces.map S1)) : Nat) : Int)) - ((DC.wt (.sl (v.fields.map TFieldDef.enc)) : Nat) : Int)) - ((DC.wt (.sl (v.inputs.map TInDef.enc)) : Nat) : Int)) - ((DC.wt (.sl (v.values.map TEnumDef.enc)) : Nat) : Int)) - ((DC.wt (.sl (v.roots.map TRoot.enc)) : Nat) : Int)) - ((DC.wt (.sl (v.dirs.map TDir.enc)) : Nat) : Int)) from (szR_ge (by omega)).trans (by omega)]
theorem szS_Def' (vs : List TDef) (hs : ∀ v ∈ vs, okL (TDef.enc v) → ∀ left : Int, 0 ≤ left → left ≤ 1048576 → r_laws_szDef [.i v.kind, .b v.ext, .s v.desc, .s v.name, .sl (v.faces.map S1), .sl (v.fields.map TFieldDef.enc), .sl (v.inputs.map TInDef.enc), .sl (v.values.map TEnumDef.enc), .sl (v.roots.map TRoot.enc), .b v.repeat', .sl (v.dirs.map TDir.enc), .i left] = .ret [.i (szR left (wtL (TDef.enc v)))]) (ok : (DC.sl (vs.map TDef.enc)).ok) (left : Int) (h0 : 0 ≤ left) (h1 : left ≤ 1048576) : r_laws_szDefS [.sl (vs.map TDef.enc), .i left] = .ret [.i (szR left (DC.wt (.sl (vs.map TDef.enc))))] := by
  rw [DC.ok, List.length_map] at ok
  obtain ⟨hl, ok⟩ := ok
  rw [eq_laws_szDefS]
  simp only [E_laws_szDefS, List.getD_cons_zero, List.getD_cons_succ, DC.bb_b, DC.ii_i, DC.ss_s, DC.ll_sl]
  refine szS_all hl (fun i hi left h0 h1 => ?_) (fun left => ?_) h0 h1
  · have key := hs vs[i] (List.getElem_mem hi) (okV_mem ok _ (List.mem_map_of_mem (List.getElem_mem hi))) left h0 h1
    generalize wtL (TDef.enc vs[i]) = w at key ⊢
    have hc1 : (i : Int) < (vs.length : Int) := by omega
    simp only [E_laws_szDefSL1, List.getD_cons_zero, List.getD_cons_succ, DC.bb_b, DC.ii_i, DC.ss_s, DC.ll_sl, Int.toNat_natCast, List.length_map, map_getD hi, TDef.enc_eq, key, Out.bindR_ret]
    by_cases hc : left < (w : Int)
    · simp [hi, hc1, hc, szR_lt hc]
    · simp [hi, hc1, hc, szR_ge hc, show ¬ left - (w : Int) < 0 by omega, wrap_succ hi hl]
  · simp [E_laws_szDefSL1]
theorem szS_Def (vs : List TDef) (ok : (DC.sl (vs.map TDef.enc)).ok) (left : Int) (h0 : 0 ≤ left) (h1 : left ≤ 1048576) : r_laws_szDefS [.sl (vs.map TDef.enc), .i left] = .ret [.i (szR left (DC.wt (.sl (vs.map TDef.enc))))] := szS_Def' vs (fun v _ => sz_Def v) ok left h0 h1
theorem to_Def (v : TDef) : wtL (TDef.enc v) ≤ 1048576 → r_laws_toDef [.i v.kind, .b v.ext, .s v.desc, .s v.name, .sl (v.faces.map S1), .sl (v.fields.map TFieldDef.enc), .sl (v.inputs.map TInDef.enc), .sl (v.values.map TEnumDef.enc), .sl (v.roots.map TRoot.enc), .b v.repeat', .sl (v.dirs.map TDir.enc)] = .ret (TDef.enc v) := by
  intro hw
  rw [wsum_Def] at hw
  rw [eq_laws_toDef]
  simp only [E_laws_toDef, List.getD_cons_zero, List.getD_cons_succ, DC.bb_b, DC.ii_i, DC.ss_s, DC.ll_sl]
  rw [toS_String v.faces (by have h := hw; simp only [DC.wt, List.length_map] at h; omega)]
  simp only [Out.bindR_ret, List.getD_cons_zero, List.getD_cons_succ, DC.bb_b, DC.ii_i, DC.ss_s, DC.ll_sl]
  rw [toS_FieldDef v.fields (by omega)]
  simp only [Out.bindR_ret, List.getD_cons_zero, List.getD_cons_succ, DC.bb_b, DC.ii_i, DC.ss_s, DC.ll_sl]
  rw [toS_InDef v.inputs (by omega)]
  simp only [Out.bindR_ret, List.getD_cons_zero, List.getD_cons_succ, DC.bb_b, DC.ii_i, DC.ss_s, DC.ll_sl]
  rw [toS_EnumDef v.values (by omega)]
  simp only [Out.bindR_ret, List.getD_cons_zero, List.getD_cons_succ, DC.bb_b, DC.ii_i, DC.ss_s, DC.ll_sl]
  rw [toS_Root v.roots (by omega)]
  simp only [Out.bindR_ret, List.getD_cons_zero, List.getD_cons_succ, DC.bb_b, DC.ii_i, DC.ss_s, DC.ll_sl]
  rw [toS_Dir v.dirs (by omega)]
  simp only [Out.bindR_ret, List.getD_cons_zero, List.getD_cons_succ, DC.bb_b, DC.ii_i, DC.ss_s, DC.ll_sl]
  rw [TDef.enc_eq]
theorem toS_Def' (vs : List TDef) (hs : ∀ v ∈ vs, wtL (TDef.enc v) ≤ 1048576 → r_laws_toDef [.i v.kind, .b v.ext, .s v.desc, .s v.name, .sl (v.faces.map S1), .sl (v.fields.map TFieldDef.enc), .sl (v.inputs.map TInDef.enc), .sl (v.values.map TEnumDef.enc), .sl (v.roots.map TRoot.enc), .b v.repeat', .sl (v.dirs.map TDir.enc)] = .ret (TDef.enc v)) (hw : DC.wt (.sl (vs.map TDef.enc)) ≤ 1048576) : r_laws_toDefS [.sl (vs.map TDef.enc)] = .ret [.sl (vs.map TDef.enc)] := by
  rw [DC.wt, List.length_map] at hw
  have hl : vs.length ≤ 1048576 := by omega
  rw [eq_laws_toDefS]
  simp only [E_laws_toDefS, List.getD_cons_zero, List.getD_cons_succ, DC.bb_b, DC.ii_i, DC.ss_s, DC.ll_sl]
  rw [if_pos ⟨by omega, by rw [List.length_map]; exact lim_of hl, trivial, by omega, by omega, rfl⟩, Int.toNat_natCast, List.length_map, show (0 : Int) = ((0 : Nat) : Int) from rfl, toS_loop hl (fun i hi cur h1 h2 => ?_) (fun cur => ?_)]
  · rfl
  · have key := hs vs[i] (List.getElem_mem hi) (by have := wtV_mem (List.mem_map_of_mem (f := TDef.enc) (List.getElem_mem hi)); omega)
    have hc1 : (i : Int) < (vs.length : Int) := by omega
    simp only [E_laws_toDefSL1, List.getD_cons_zero, List.getD_cons_succ, DC.bb_b, DC.ii_i, DC.ss_s, DC.ll_sl, Int.toNat_natCast, List.length_map, map_getD hi, h1, h2, TDef.enc_eq] at key ⊢
    simp only [key, List.getD_cons_zero, List.getD_cons_succ, DC.bb_b, DC.ii_i, DC.ss_s, DC.ll_sl, Out.bindR_ret]
    simp [hi, hc1, wrap_succ hi (show vs.length ≤ 9223372036854775807 by omega), setRunD]
  · simp [E_laws_toDefSL1]
theorem toS_Def (vs : List TDef) (hw : DC.wt (.sl (vs.map TDef.enc)) ≤ 1048576) : r_laws_toDefS [.sl (vs.map TDef.enc)] = .ret [.sl (vs.map TDef.enc)] := toS_Def' vs (fun v _ => to_Def v) hw
theorem eq_Def (v : TDef) : wtL (TDef.enc v) ≤ 1048576 → r_laws_eqDef [.i v.kind, .b v.ext, .s v.desc, .s v.name, .sl (v.faces.map S1), .sl (v.fields.map TFieldDef.enc), .sl (v.inputs.map TInDef.enc), .sl (v.values.map TEnumDef.enc), .sl (v.roots.map TRoot.enc), .b v.repeat', .sl (v.dirs.map TDir.enc), .i v.kind, .b v.ext, .s v.desc, .s v.name, .sl (v.faces.map S1), .sl (v.fields.map TFieldDef.enc), .sl (v.inputs.map TInDef.enc), .sl (v.values.map TEnumDef.enc), .sl (v.roots.map TRoot.enc), .b v.repeat', .sl (v.dirs.map TDir.enc)] = .ret [.b true] := by
  intro hw
  rw [wsum_Def] at hw
  rw [eq_laws_eqDef]
  simp only [E_laws_eqDef, List.getD_cons_zero, List.getD_cons_succ, DC.bb_b, DC.ii_i, DC.ss_s, DC.ll_sl, bne_self_eq_false, beq_self_eq_true, Bool.not_true, Bool.false_eq_true, if_false]
  rw [eqS_String v.faces (by have h := hw; simp only [DC.wt, List.length_map] at h; omega)]
  simp only [Out.bindR_ret, List.getD_cons_zero, List.getD_cons_succ, DC.bb_b, DC.ii_i, DC.ss_s, DC.ll_sl, bne_self_eq_false, beq_self_eq_true, Bool.not_true, Bool.false_eq_true, if_false]
  rw [eqS_FieldDef v.fields (by omega)]
  simp only [Out.bindR_ret, List.getD_cons_zero, List.getD_cons_succ, DC.bb_b, DC.ii_i, DC.ss_s, DC.ll_sl, bne_self_eq_false, beq_self_eq_true, Bool.not_true, Bool.false_eq_true, if_false]
  rw [eqS_InDef v.inputs (by omega)]
  simp only [Out.bindR_ret, List.getD_cons_zero, List.getD_cons_succ, DC.bb_b, DC.ii_i, DC.ss_s, DC.ll_sl, bne_self_eq_false, beq_self_eq_true, Bool.not_true, Bool.false_eq_true, if_false]
  rw [eqS_EnumDef v.values (by omega)]
  simp only [Out.bindR_ret, List.getD_cons_zero, List.getD_cons_succ, DC.bb_b, DC.ii_i, DC.ss_s, DC.ll_sl, bne_self_eq_false, beq_self_eq_true, Bool.not_true, Bool.false_eq_true, if_false]
  rw [eqS_Root v.roots (by omega)]
  simp only [Out.bindR_ret, List.getD_cons_zero, List.getD_cons_succ, DC.bb_b, DC.ii_i, DC.ss_s, DC.ll_sl, bne_self_eq_false, beq_self_eq_true, Bool.not_true, Bool.false_eq_true, if_false]
  rw [eqS_Dir v.dirs (by omega)]
  simp only [Out.bindR_ret, List.getD_cons_zero, List.getD_cons_succ, DC.bb_b, DC.ii_i, DC.ss_s, DC.ll_sl, bne_self_eq_false, beq_self_eq_true, Bool.not_true, Bool.false_eq_true, if_false]
theorem eqS_Def' (vs : List TDef) (hs : ∀ v ∈ vs, wtL (TDef.enc v) ≤ 1048576 → r_laws_eqDef [.i v.kind, .b v.ext, .s v.desc, .s v.name, .sl (v.faces.map S1), .sl (v.fields.map TFieldDef.enc), .sl (v.inputs.map TInDef.enc), .sl (v.values.map TEnumDef.enc), .sl (v.roots.map TRoot.enc), .b v.repeat', .sl (v.dirs.map TDir.enc), .i v.kind, .b v.ext, .s v.desc, .s v.name, .sl (v.faces.map S1), .sl (v.fields.map TFieldDef.enc), .sl (v.inputs.map TInDef.enc), .sl (v.values.map TEnumDef.enc), .sl (v.roots.map TRoot.enc), .b v.repeat', .sl (v.dirs.map TDir.enc)] = .ret [.b true]) (hw : DC.wt (.sl (vs.map TDef.enc)) ≤ 1048576) : r_laws_eqDefS [.sl (vs.map TDef.enc), .sl (vs.map TDef.enc)] = .ret [.b true] := by
  rw [DC.wt, List.length_map] at hw
  have hl : vs.length ≤ 1048576 := by omega
  rw [eq_laws_eqDefS]
  simp only [E_laws_eqDefS, List.getD_cons_zero, List.getD_cons_succ, DC.bb_b, DC.ii_i, DC.ss_s, DC.ll_sl]
  refine eqS_all (fun i hi => ?_) ?_
  · rw [List.length_map] at hi
    have key := hs vs[i] (List.getElem_mem hi) (by have := wtV_mem (List.mem_map_of_mem (f := TDef.enc) (List.getElem_mem hi)); omega)
    have hc1 : (i : Int) < (vs.length : Int) := by omega
    simp only [E_laws_eqDefSL1, List.getD_cons_zero, List.getD_cons_succ, DC.bb_b, DC.ii_i, DC.ss_s, DC.ll_sl, Int.toNat_natCast, List.length_map, map_getD hi, TDef.enc_eq] at key ⊢
    simp only [key, List.getD_cons_zero, List.getD_cons_succ, DC.bb_b, DC.ii_i, DC.ss_s, DC.ll_sl, Out.bindR_ret]
    simp [hi, hc1, wrap_succ hi (show vs.length ≤ 9223372036854775807 by omega)]
  · simp [E_laws_eqDefSL1]
theorem eqS_Def (vs : List TDef) (hw : DC.wt (.sl (vs.map TDef.enc)) ≤ 1048576) : r_laws_eqDefS [.sl (vs.map TDef.enc), .sl (vs.map TDef.enc)] = .ret [.b true] := eqS_Def' vs (fun v _ => eq_Def v) hw
theorem mh_String (v : (List UInt8)) : ∀ k : Int, 0 ≤ k → k + 30 * ((1 + wtL (S1 v) : Nat) : Int) < 4611686018427387904 → ∃ (x' : (List UInt8)) (k' : Int), (MarkRow mT mTab ms26 S1 v k x' k' ∧ (∀ (l : List (List DC)) (i : Nat), i < l.length → l.length ≤ 9223372036854775807 → l.getD i [] = S1 x' → E_laws_heldStringSL1 [.sl l, .i k, .i (i : Int)] = .norm [.sl l, .i k', .i ((i + 1 : Nat) : Int)])) ∧ k ≤ k' ∧ k' ≤ k + 30 * ((1 + wtL (S1 v) : Nat) : Int) := by
  intro k h0 hk
  refine ⟨mtx (k), k + 1, ⟨⟨0, fun m hm r => ?_⟩, ?_⟩, by omega, by omega⟩
  · refine ⟨r, ?_⟩
    unfold S1
    refine rowActs_txt (s := mtx (k)) rfl (rowActs_inc (by omega) ?_)
    exact rfl
  · intro l i hi hl hg
    have m0 : E_laws_markText [.i (k)] = .ret [.s (mtx (k))] := mtx_eq (by omega) (by omega)
    have w0 : IntKind.i64.wrap (k + 1) = k + 1 := wrap64 (by omega) (by omega)
    have hc1 : (i : Int) < (l.length : Int) := by omega
    simp only [E_laws_heldStringSL1, List.getD_cons_zero, List.getD_cons_succ, DC.bb_b, DC.ii_i, DC.ss_s, DC.ll_sl, Int.toNat_natCast, hg, S1, m0, w0, eq_laws_markText, Out.bindR_ret]
    simp [hi, hc1, wrap_succ hi hl, m0, w0]
theorem mhS_String' (vs : List (List UInt8)) (hs : ∀ v ∈ vs, ∀ k : Int, 0 ≤ k → k + 30 * ((1 + wtL (S1 v) : Nat) : Int) < 4611686018427387904 → ∃ (x' : (List UInt8)) (k' : Int), (MarkRow mT mTab ms26 S1 v k x' k' ∧ (∀ (l : List (List DC)) (i : Nat), i < l.length → l.length ≤ 9223372036854775807 → l.getD i [] = S1 x' → E_laws_heldStringSL1 [.sl l, .i k, .i (i : Int)] = .norm [.sl l, .i k', .i ((i + 1 : Nat) : Int)])) ∧ k ≤ k' ∧ k' ≤ k + 30 * ((1 + wtL (S1 v) : Nat) : Int)) (k : Int) (h0 : 0 ≤ k) (hk : k + 30 * ((DC.wt (.sl (vs.map S1)) : Nat) : Int) < 4611686018427387904) : ∃ (vs' : List (List UInt8)) (k' : Int), Mk mT mTab 26 (vs.map S1) k (vs'.map S1) k' ∧ k ≤ k' ∧ k' ≤ k + 30 * ((DC.wt (.sl (vs.map S1)) : Nat) : Int) ∧ r_laws_heldStringS [.sl (vs'.map S1), .i k] = .ret [.i k'] := by
  obtain ⟨vs', k', m, b1, b2, c⟩ := mark_all (Q := fun k x' k' => ∀ (l : List (List DC)) (i : Nat), i < l.length → l.length ≤ 9223372036854775807 → l.getD i [] = S1 x' → E_laws_heldStringSL1 [.sl l, .i k, .i (i : Int)] = .norm [.sl l, .i k', .i ((i + 1 : Nat) : Int)]) (f := 26) (ms := ms26) rfl vs hs h0 hk
  refine ⟨vs', k', m, b1, b2, ?_⟩
  have hl : vs.length ≤ DC.wt (.sl (vs.map S1)) := by simp [DC.wt]
  have hc := c.len
  have key : Loop E_laws_heldStringSL1 [.sl (vs'.map S1), .i k, .i (0 : Int)] = .ex 0 [.i k'] := held_loop c (fun l k => by simp [E_laws_heldStringSL1]) [] (by simp only [List.length_nil]; omega)
  rw [eq_laws_heldStringS]
  simp only [E_laws_heldStringS, List.getD_cons_zero, List.getD_cons_succ, DC.bb_b, DC.ii_i, DC.ss_s, DC.ll_sl, key, Out.andThenB]
  rfl
theorem mhS_String (vs : List (List UInt8)) (k : Int) (h0 : 0 ≤ k) (hk : k + 30 * ((DC.wt (.sl (vs.map S1)) : Nat) : Int) < 4611686018427387904) : ∃ (vs' : List (List UInt8)) (k' : Int), Mk mT mTab 26 (vs.map S1) k (vs'.map S1) k' ∧ k ≤ k' ∧ k' ≤ k + 30 * ((DC.wt (.sl (vs.map S1)) : Nat) : Int) ∧ r_laws_heldStringS [.sl (vs'.map S1), .i k] = .ret [.i k'] := mhS_String' vs (fun v _ => mh_String v) k h0 hk
theorem mhS_Value' (vs : List TValue) (hs : ∀ v ∈ vs, ∀ k : Int, 0 ≤ k → k + 30 * ((1 + wtL (TValue.enc v) : Nat) : Int) < 4611686018427387904 → ∃ (x' : TValue) (k' : Int), (MarkRow mT mTab ms68 TValue.enc v k x' k' ∧ (∀ (l : List (List DC)) (i : Nat), i < l.length → l.length ≤ 9223372036854775807 → l.getD i [] = TValue.enc x' → E_laws_heldValueSL1 [.sl l, .i k, .i (i : Int)] = .norm [.sl l, .i k', .i ((i + 1 : Nat) : Int)])) ∧ k ≤ k' ∧ k' ≤ k + 30 * ((1 + wtL (TValue.enc v) : Nat) : Int)) (k : Int) (h0 : 0 ≤ k) (hk : k + 30 * ((DC.wt (.sl (vs.map TValue.enc)) : Nat) : Int) < 4611686018427387904) : ∃ (vs' : List TValue) (k' : Int), Mk mT mTab 68 (vs.map TValue.enc) k (vs'.map TValue.enc) k' ∧ k ≤ k' ∧ k' ≤ k + 30 * ((DC.wt (.sl (vs.map TValue.enc)) : Nat) : Int) ∧ r_laws_heldValueS [.sl (vs'.map TValue.enc), .i k] = .ret [.i k'] := by
  obtain ⟨vs', k', m, b1, b2, c⟩ := mark_all (Q := fun k x' k' => ∀ (l : List (List DC)) (i : Nat), i < l.length → l.length ≤ 9223372036854775807 → l.getD i [] = TValue.enc x' → E_laws_heldValueSL1 [.sl l, .i k, .i (i : Int)] = .norm [.sl l, .i k', .i ((i + 1 : Nat) : Int)]) (f := 68) (ms := ms68) rfl vs hs h0 hk
  refine ⟨vs', k', m, b1, b2, ?_⟩
  have hl : vs.length ≤ DC.wt (.sl (vs.map TValue.enc)) := by simp [DC.wt]
  have hc := c.len
  have key : Loop E_laws_heldValueSL1 [.sl (vs'.map TValue.enc), .i k, .i (0 : Int)] = .ex 0 [.i k'] := held_loop c (fun l k => by simp [E_laws_heldValueSL1]) [] (by simp only [List.length_nil]; omega)
  rw [eq_laws_heldValueS]
  simp only [E_laws_heldValueS, List.getD_cons_zero, List.getD_cons_succ, DC.bb_b, DC.ii_i, DC.ss_s, DC.ll_sl, key, Out.andThenB]
  rfl
theorem mh_Value (v : TValue) : ∀ k : Int, 0 ≤ k → k + 30 * ((1 + wtL (TValue.enc v) : Nat) : Int) < 4611686018427387904 → ∃ (x' : TValue) (k' : Int), (MarkRow mT mTab ms68 TValue.enc v k x' k' ∧ (∀ (l : List (List DC)) (i : Nat), i < l.length → l.length ≤ 9223372036854775807 → l.getD i [] = TValue.enc x' → E_laws_heldValueSL1 [.sl l, .i k, .i (i : Int)] = .norm [.sl l, .i k', .i ((i + 1 : Nat) : Int)])) ∧ k ≤ k' ∧ k' ≤ k + 30 * ((1 + wtL (TValue.enc v) : Nat) : Int) := by
  induction v using TValue.ind with | h v ih =>
  intro k h0 hk
  rw [wsum_Value] at hk
  rw [wsum_Value]
  obtain ⟨a2, k2, ⟨n2, e2⟩, b2, c2, h2⟩ := mhS_Value' v.items (fun x hx => ih x hx) (k + 1 + 1) (by omega) (by omega)
  obtain ⟨a3, k3, ⟨n3, e3⟩, b3, c3, h3⟩ := mhS_String v.names (k2) (by omega) (by omega)
  refine ⟨⟨k, mtx (k + 1), a2, a3⟩, k3, ⟨⟨n2 + n3, fun m hm r => ?_⟩, ?_⟩, by omega, by omega⟩
  · refine ⟨k3, ?_⟩
    rw [TValue.enc_eq, TValue.enc_eq]
    refine rowActs_int (rowActs_inc (by omega) ?_)
    refine rowActs_txt (s := mtx (k + 1)) rfl (rowActs_inc (by omega) ?_)
    refine rowActs_sub (l := v.items.map TValue.enc) rfl (mkF_up (by omega) e2) (rowActs_upd ⟨by omega, by omega⟩ ?_)
    refine rowActs_sub (l := v.names.map S1) rfl (mkF_up (by omega) e3) (rowActs_upd ⟨by omega, by omega⟩ ?_)
    exact rfl
  · intro l i hi hl hg
    have w0 : IntKind.i64.wrap (k + 1) = k + 1 := wrap64 (by omega) (by omega)
    have m1 : E_laws_markText [.i (k + 1)] = .ret [.s (mtx (k + 1))] := mtx_eq (by omega) (by omega)
    have w1 : IntKind.i64.wrap (k + 1 + 1) = k + 1 + 1 := wrap64 (by omega) (by omega)
    have g2 : ¬ k2 < 0 := by omega
    have g3 : ¬ k3 < 0 := by omega
    have hc1 : (i : Int) < (l.length : Int) := by omega
    simp only [E_laws_heldValueSL1, List.getD_cons_zero, List.getD_cons_succ, DC.bb_b, DC.ii_i, DC.ss_s, DC.ll_sl, Int.toNat_natCast, hg, TValue.enc_eq, w0, m1, w1, h2, h3, eq_laws_markText, Out.bindR_ret]
    simp [hi, hc1, wrap_succ hi hl, g2, g3, w0, m1, w1, h2, h3]
theorem mhS_Value (vs : List TValue) (k : Int) (h0 : 0 ≤ k) (hk : k + 30 * ((DC.wt (.sl (vs.map TValue.enc)) : Nat) : Int) < 4611686018427387904) : ∃ (vs' : List TValue) (k' : Int), Mk mT mTab 68 (vs.map TValue.enc) k (vs'.map TValue.enc) k' ∧ k ≤ k' ∧ k' ≤ k + 30 * ((DC.wt (.sl (vs.map TValue.enc)) : Nat) : Int) ∧ r_laws_heldValueS [.sl (vs'.map TValue.enc), .i k] = .ret [.i k'] := mhS_Value' vs (fun v _ => mh_Value v) k h0 hk
theorem mh_Arg (v : TArg) : ∀ k : Int, 0 ≤ k → k + 30 * ((1 + wtL (TArg.enc v) : Nat) : Int) < 4611686018427387904 → ∃ (x' : TArg) (k' : Int), (MarkRow mT mTab ms69 TArg.enc v k x' k' ∧ (∀ (l : List (List DC)) (i : Nat), i < l.length → l.length ≤ 9223372036854775807 → l.getD i [] = TArg.enc x' → E_laws_heldArgSL1 [.sl l, .i k, .i (i : Int)] = .norm [.sl l, .i k', .i ((i + 1 : Nat) : Int)])) ∧ k ≤ k' ∧ k' ≤ k + 30 * ((1 + wtL (TArg.enc v) : Nat) : Int) := by
  intro k h0 hk
  rw [wsum_Arg, wsum_Value] at hk
  rw [wsum_Arg, wsum_Value]
  obtain ⟨a3, k3, ⟨n3, e3⟩, b3, c3, h3⟩ := mhS_Value v.value.items (k + 1 + 1 + 1) (by omega) (by omega)
  obtain ⟨a4, k4, ⟨n4, e4⟩, b4, c4, h4⟩ := mhS_String v.value.names (k3) (by omega) (by omega)
  refine ⟨⟨mtx (k), ⟨k + 1, mtx (k + 1 + 1), a3, a4⟩⟩, k4, ⟨⟨n3 + n4, fun m hm r => ?_⟩, ?_⟩, by omega, by omega⟩
  · refine ⟨k4, ?_⟩
    rw [TArg.enc_eq, TArg.enc_eq]
    refine rowActs_txt (s := mtx (k)) rfl (rowActs_inc (by omega) ?_)
    refine rowActs_int (rowActs_inc (by omega) ?_)
    refine rowActs_txt (s := mtx (k + 1 + 1)) rfl (rowActs_inc (by omega) ?_)
    refine rowActs_sub (l := v.value.items.map TValue.enc) rfl (mkF_up (by omega) e3) (rowActs_upd ⟨by omega, by omega⟩ ?_)
    refine rowActs_sub (l := v.value.names.map S1) rfl (mkF_up (by omega) e4) (rowActs_upd ⟨by omega, by omega⟩ ?_)
    exact rfl
  · intro l i hi hl hg
    have m0 : E_laws_markText [.i (k)] = .ret [.s (mtx (k))] := mtx_eq (by omega) (by omega)
    have w0 : IntKind.i64.wrap (k + 1) = k + 1 := wrap64 (by omega) (by omega)
    have w1 : IntKind.i64.wrap (k + 1 + 1) = k + 1 + 1 := wrap64 (by omega) (by omega)
    have m2 : E_laws_markText [.i (k + 1 + 1)] = .ret [.s (mtx (k + 1 + 1))] := mtx_eq (by omega) (by omega)
    have w2 : IntKind.i64.wrap (k + 1 + 1 + 1) = k + 1 + 1 + 1 := wrap64 (by omega) (by omega)
    have g3 : ¬ k3 < 0 := by omega
    have g4 : ¬ k4 < 0 := by omega
    have hc1 : (i : Int) < (l.length : Int) := by omega
    simp only [E_laws_heldArgSL1, List.getD_cons_zero, List.getD_cons_succ, DC.bb_b, DC.ii_i, DC.ss_s, DC.ll_sl, Int.toNat_natCast, hg, TArg.enc_eq, m0, w0, w1, m2, w2, h3, h4, eq_laws_markText, Out.bindR_ret]
    simp [hi, hc1, wrap_succ hi hl, g3, g4, m0, w0, w1, m2, w2, h3, h4]
theorem mhS_Arg' (vs : List TArg) (hs : ∀ v ∈ vs, ∀ k : Int, 0 ≤ k → k + 30 * ((1 + wtL (TArg.enc v) : Nat) : Int) < 4611686018427387904 → ∃ (x' : TArg) (k' : Int), (MarkRow mT mTab ms69 TArg.enc v k x' k' ∧ (∀ (l : List (List DC)) (i : Nat), i < l.length → l.length ≤ 9223372036854775807 → l.getD i [] = TArg.enc x' → E_laws_heldArgSL1 [.sl l, .i k, .i (i : Int)] = .norm [.sl l, .i k', .i ((i + 1 : Nat) : Int)])) ∧ k ≤ k' ∧ k' ≤ k + 30 * ((1 + wtL (TArg.enc v) : Nat) : Int)) (k : Int) (h0 : 0 ≤ k) (hk : k + 30 * ((DC.wt (.sl (vs.map TArg.enc)) : Nat) : Int) < 4611686018427387904) : ∃ (vs' : List TArg) (k' : Int), Mk mT mTab 69 (vs.map TArg.enc) k (vs'.map TArg.enc) k' ∧ k ≤ k' ∧ k' ≤ k + 30 * ((DC.wt (.sl (vs.map TArg.enc)) : Nat) : Int) ∧ r_laws_heldArgS [.sl (vs'.map TArg.enc), .i k] = .ret [.i k'] := by
  obtain ⟨vs', k', m, b1, b2, c⟩ := mark_all (Q := fun k x' k' => ∀ (l : List (List DC)) (i : Nat), i < l.length → l.length ≤ 9223372036854775807 → l.getD i [] = TArg.enc x' → E_laws_heldArgSL1 [.sl l, .i k, .i (i : Int)] = .norm [.sl l, .i k', .i ((i + 1 : Nat) : Int)]) (f := 69) (ms := ms69) rfl vs hs h0 hk
  refine ⟨vs', k', m, b1, b2, ?_⟩
  have hl : vs.length ≤ DC.wt (.sl (vs.map TArg.enc)) := by simp [DC.wt]
  have hc := c.len
  have key : Loop E_laws_heldArgSL1 [.sl (vs'.map TArg.enc), .i k, .i (0 : Int)] = .ex 0 [.i k'] := held_loop c (fun l k => by simp [E_laws_heldArgSL1]) [] (by simp only [List.length_nil]; omega)
  rw [eq_laws_heldArgS]
  simp only [E_laws_heldArgS, List.getD_cons_zero, List.getD_cons_succ, DC.bb_b, DC.ii_i, DC.ss_s, DC.ll_sl, key, Out.andThenB]
  rfl
theorem mhS_Arg (vs : List TArg) (k : Int) (h0 : 0 ≤ k) (hk : k + 30 * ((DC.wt (.sl (vs.map TArg.enc)) : Nat) : Int) < 4611686018427387904) : ∃ (vs' : List TArg) (k' : Int), Mk mT mTab 69 (vs.map TArg.enc) k (vs'.map TArg.enc) k' ∧ k ≤ k' ∧ k' ≤ k + 30 * ((DC.wt (.sl (vs.map TArg.enc)) : Nat) : Int) ∧ r_laws_heldArgS [.sl (vs'.map TArg.enc), .i k] = .ret [.i k'] := mhS_Arg' vs (fun v _ => mh_Arg v) k h0 hk
theorem mh_Dir (v : TDir) : ∀ k : Int, 0 ≤ k → k + 30 * ((1 + wtL (TDir.enc v) : Nat) : Int) < 4611686018427387904 → ∃ (x' : TDir) (k' : Int), (MarkRow mT mTab ms31 TDir.enc v k x' k' ∧ (∀ (l : List (List DC)) (i : Nat), i < l.length → l.length ≤ 9223372036854775807 → l.getD i [] = TDir.enc x' → E_laws_heldDirSL1 [.sl l, .i k, .i (i : Int)] = .norm [.sl l, .i k', .i ((i + 1 : Nat) : Int)])) ∧ k ≤ k' ∧ k' ≤ k + 30 * ((1 + wtL (TDir.enc v) : Nat) : Int) := by
  intro k h0 hk
  rw [wsum_Dir] at hk
  rw [wsum_Dir]
  obtain ⟨a1, k1, ⟨n1, e1⟩, b1, c1, h1⟩ := mhS_Arg v.args (k + 1) (by omega) (by omega)
  refine ⟨⟨mtx (k), a1⟩, k1, ⟨⟨n1, fun m hm r => ?_⟩, ?_⟩, by omega, by omega⟩
  · refine ⟨k1, ?_⟩
    rw [TDir.enc_eq, TDir.enc_eq]
    refine rowActs_txt (s := mtx (k)) rfl (rowActs_inc (by omega) ?_)
    refine rowActs_sub (l := v.args.map TArg.enc) rfl (mkF_up (by omega) e1) (rowActs_upd ⟨by omega, by omega⟩ ?_)
    exact rfl
  · intro l i hi hl hg
    have m0 : E_laws_markText [.i (k)] = .ret [.s (mtx (k))] := mtx_eq (by omega) (by omega)
    have w0 : IntKind.i64.wrap (k + 1) = k + 1 := wrap64 (by omega) (by omega)
    have g1 : ¬ k1 < 0 := by omega
    have hc1 : (i : Int) < (l.length : Int) := by omega
    simp only [E_laws_heldDirSL1, List.getD_cons_zero, List.getD_cons_succ, DC.bb_b, DC.ii_i, DC.ss_s, DC.ll_sl, Int.toNat_natCast, hg, TDir.enc_eq, m0, w0, h1, eq_laws_markText, Out.bindR_ret]
    simp [hi, hc1, wrap_succ hi hl, g1, m0, w0, h1]
theorem mhS_Dir' (vs : List TDir) (hs : ∀ v ∈ vs, ∀ k : Int, 0 ≤ k → k + 30 * ((1 + wtL (TDir.enc v) : Nat) : Int) < 4611686018427387904 → ∃ (x' : TDir) (k' : Int), (MarkRow mT mTab ms31 TDir.enc v k x' k' ∧ (∀ (l : List (List DC)) (i : Nat), i < l.length → l.length ≤ 9223372036854775807 → l.getD i [] = TDir.enc x' → E_laws_heldDirSL1 [.sl l, .i k, .i (i : Int)] = .norm [.sl l, .i k', .i ((i + 1 : Nat) : Int)])) ∧ k ≤ k' ∧ k' ≤ k + 30 * ((1 + wtL (TDir.enc v) : Nat) : Int)) (k : Int) (h0 : 0 ≤ k) (hk : k + 30 * ((DC.wt (.sl (vs.map TDir.enc)) : Nat) : Int) < 4611686018427387904) : ∃ (vs' : List TDir) (k' : Int), Mk mT mTab 31 (vs.map TDir.enc) k (vs'.map TDir.enc) k' ∧ k ≤ k' ∧ k' ≤ k + 30 * ((DC.wt (.sl (vs.map TDir.enc)) : Nat) : Int) ∧ r_laws_heldDirS [.sl (vs'.map TDir.enc), .i k] = .ret [.i k'] := by
  obtain ⟨vs', k', m, b1, b2, c⟩ := mark_all (Q := fun k x' k' => ∀ (l : List (List DC)) (i : Nat), i < l.length → l.length ≤ 9223372036854775807 → l.getD i [] = TDir.enc x' → E_laws_heldDirSL1 [.sl l, .i k, .i (i : Int)] = .norm [.sl l, .i k', .i ((i + 1 : Nat) : Int)]) (f := 31) (ms := ms31) rfl vs hs h0 hk
  refine ⟨vs', k', m, b1, b2, ?_⟩
  have hl : vs.length ≤ DC.wt (.sl (vs.map TDir.enc)) := by simp [DC.wt]
  have hc := c.len
  have key : Loop E_laws_heldDirSL1 [.sl (vs'.map TDir.enc), .i k, .i (0 : Int)] = .ex 0 [.i k'] := held_loop c (fun l k => by simp [E_laws_heldDirSL1]) [] (by simp only [List.length_nil]; omega)
  rw [eq_laws_heldDirS]
  simp only [E_laws_heldDirS, List.getD_cons_zero, List.getD_cons_succ, DC.bb_b, DC.ii_i, DC.ss_s, DC.ll_sl, key, Out.andThenB]
  rfl
theorem mhS_Dir (vs : List TDir) (k : Int) (h0 : 0 ≤ k) (hk : k + 30 * ((DC.wt (.sl (vs.map TDir.enc)) : Nat) : Int) < 4611686018427387904) : ∃ (vs' : List TDir) (k' : Int), Mk mT mTab 31 (vs.map TDir.enc) k (vs'.map TDir.enc) k' ∧ k ≤ k' ∧ k' ≤ k + 30 * ((DC.wt (.sl (vs.map TDir.enc)) : Nat) : Int) ∧ r_laws_heldDirS [.sl (vs'.map TDir.enc), .i k] = .ret [.i k'] := mhS_Dir' vs (fun v _ => mh_Dir v) k h0 hk
theorem mh_InDef (v : TInDef) : ∀ k : Int, 0 ≤ k → k + 30 * ((1 + wtL (TInDef.enc v) : Nat) : Int) < 4611686018427387904 → ∃ (x' : TInDef) (k' : Int), (MarkRow mT mTab ms28 TInDef.enc v k x' k' ∧ (∀ (l : List (List DC)) (i : Nat), i < l.length → l.length ≤ 9223372036854775807 → l.getD i [] = TInDef.enc x' → E_laws_heldInDefSL1 [.sl l, .i k, .i (i : Int)] = .norm [.sl l, .i k', .i ((i + 1 : Nat) : Int)])) ∧ k ≤ k' ∧ k' ≤ k + 30 * ((1 + wtL (TInDef.enc v) : Nat) : Int) := by
  intro k h0 hk
  rw [wsum_InDef, wsum_Type, wsum_Value] at hk
  rw [wsum_InDef, wsum_Type, wsum_Value]
  obtain ⟨a7, k7, ⟨n7, e7⟩, b7, c7, h7⟩ := mhS_Value v.default'.items (k + 1 + 1 + 1 + 1 + 1 + 1 + 1) (by omega) (by omega)
  obtain ⟨a8, k8, ⟨n8, e8⟩, b8, c8, h8⟩ := mhS_String v.default'.names (k7) (by omega) (by omega)
  obtain ⟨a9, k9, ⟨n9, e9⟩, b9, c9, h9⟩ := mhS_Dir v.dirs (k8) (by omega) (by omega)
  refine ⟨⟨mtx (k), mtx (k + 1), ⟨mtx (k + 1 + 1), mtx (k + 1 + 1 + 1)⟩, (k + 1 + 1 + 1 + 1) % 3 == 0, ⟨k + 1 + 1 + 1 + 1 + 1, mtx (k + 1 + 1 + 1 + 1 + 1 + 1), a7, a8⟩, a9⟩, k9, ⟨⟨n7 + n8 + n9, fun m hm r => ?_⟩, ?_⟩, by omega, by omega⟩
  · refine ⟨k9, ?_⟩
    rw [TInDef.enc_eq, TInDef.enc_eq]
    refine rowActs_txt (s := mtx (k)) rfl (rowActs_inc (by omega) ?_)
    refine rowActs_txt (s := mtx (k + 1)) rfl (rowActs_inc (by omega) ?_)
    refine rowActs_txt (s := mtx (k + 1 + 1)) rfl (rowActs_inc (by omega) ?_)
    refine rowActs_txt (s := mtx (k + 1 + 1 + 1)) rfl (rowActs_inc (by omega) ?_)
    refine rowActs_bool (rowActs_inc (by omega) ?_)
    refine rowActs_int (rowActs_inc (by omega) ?_)
    refine rowActs_txt (s := mtx (k + 1 + 1 + 1 + 1 + 1 + 1)) rfl (rowActs_inc (by omega) ?_)
    refine rowActs_sub (l := v.default'.items.map TValue.enc) rfl (mkF_up (by omega) e7) (rowActs_upd ⟨by omega, by omega⟩ ?_)
    refine rowActs_sub (l := v.default'.names.map S1) rfl (mkF_up (by omega) e8) (rowActs_upd ⟨by omega, by omega⟩ ?_)
    refine rowActs_sub (l := v.dirs.map TDir.enc) rfl (mkF_up (by omega) e9) (rowActs_upd ⟨by omega, by omega⟩ ?_)
    exact rfl
  · intro l i hi hl hg
    have m0 : E_laws_markText [.i (k)] = .ret [.s (mtx (k))] := mtx_eq (by omega) (by omega)
    have w0 : IntKind.i64.wrap (k + 1) = k + 1 := wrap64 (by omega) (by omega)
    have m1 : E_laws_markText [.i (k + 1)] = .ret [.s (mtx (k + 1))] := mtx_eq (by omega) (by omega)
    have w1 : IntKind.i64.wrap (k + 1 + 1) = k + 1 + 1 := wrap64 (by omega) (by omega)
    have m2 : E_laws_markText [.i (k + 1 + 1)] = .ret [.s (mtx (k + 1 + 1))] := mtx_eq (by omega) (by omega)
    have w2 : IntKind.i64.wrap (k + 1 + 1 + 1) = k + 1 + 1 + 1 := wrap64 (by omega) (by omega)
    have m3 : E_laws_markText [.i (k + 1 + 1 + 1)] = .ret [.s (mtx (k + 1 + 1 + 1))] := mtx_eq (by omega) (by omega)
    have w3 : IntKind.i64.wrap (k + 1 + 1 + 1 + 1) = k + 1 + 1 + 1 + 1 := wrap64 (by omega) (by omega)
    have t4 : Int.tmod (k + 1 + 1 + 1 + 1) 3 = (k + 1 + 1 + 1 + 1) % 3 := Int.tmod_eq_emod_of_nonneg (by omega)
    have w4 : IntKind.i64.wrap (k + 1 + 1 + 1 + 1 + 1) = k + 1 + 1 + 1 + 1 + 1 := wrap64 (by omega) (by omega)
    have w5 : IntKind.i64.wrap (k + 1 + 1 + 1 + 1 + 1 + 1) = k + 1 + 1 + 1 + 1 + 1 + 1 := wrap64 (by omega) (by omega)
    have m6 : E_laws_markText [.i (k + 1 + 1 + 1 + 1 + 1 + 1)] = .ret [.s (mtx (k + 1 + 1 + 1 + 1 + 1 + 1))] := mtx_eq (by omega) (by omega)
    have w6 : IntKind.i64.wrap (k + 1 + 1 + 1 + 1 + 1 + 1 + 1) = k + 1 + 1 + 1 + 1 + 1 + 1 + 1 := wrap64 (by omega) (by omega)
    have g7 : ¬ k7 < 0 := by omega
    have g8 : ¬ k8 < 0 := by omega
    have g9 : ¬ k9 < 0 := by omega
    have hc1 : (i : Int) < (l.length : Int) := by omega
    simp only [E_laws_heldInDefSL1, List.getD_cons_zero, List.getD_cons_succ, DC.bb_b, DC.ii_i, DC.ss_s, DC.ll_sl, Int.toNat_natCast, hg, TInDef.enc_eq, m0, w0, m1, w1, m2, w2, m3, w3, t4, w4, w5, m6, w6, h7, h8, h9, eq_laws_markText, Out.bindR_ret]
    simp [hi, hc1, wrap_succ hi hl, g7, g8, g9, m0, w0, m1, w1, m2, w2, m3, w3, t4, w4, w5, m6, w6, h7, h8, h9]
theorem mhS_InDef' (vs : List TInDef) (hs : ∀ v ∈ vs, ∀ k : Int, 0 ≤ k → k + 30 * ((1 + wtL (TInDef.enc v) : Nat) : Int) < 4611686018427387904 → ∃ (x' : TInDef) (k' : Int), (MarkRow mT mTab ms28 TInDef.enc v k x' k' ∧ (∀ (l : List (List DC)) (i : Nat), i < l.length → l.length ≤ 9223372036854775807 → l.getD i [] = TInDef.enc x' → E_laws_heldInDefSL1 [.sl l, .i k, .i (i : Int)] = .norm [.sl l, .i k', .i ((i + 1 : Nat) : Int)])) ∧ k ≤ k' ∧ k' ≤ k + 30 * ((1 + wtL (TInDef.enc v) : Nat) : Int)) (k : Int) (h0 : 0 ≤ k) (hk : k + 30 * ((DC.wt (.sl (vs.map TInDef.enc)) : Nat) : Int) < 4611686018427387904) : ∃ (vs' : List TInDef) (k' : Int), Mk mT mTab 28 (vs.map TInDef.enc) k (vs'.map TInDef.enc) k' ∧ k ≤ k' ∧ k' ≤ k + 30 * ((DC.wt (.sl (vs.map TInDef.enc)) : Nat) : Int) ∧ r_laws_heldInDefS [.sl (vs'.map TInDef.enc), .i k] = .ret [.i k'] := by
  obtain ⟨vs', k', m, b1, b2, c⟩ := mark_all (Q := fun k x' k' => ∀ (l : List (List DC)) (i : Nat), i < l.length → l.length ≤ 9223372036854775807 → l.getD i [] = TInDef.enc x' → E_laws_heldInDefSL1 [.sl l, .i k, .i (i : Int)] = .norm [.sl l, .i k', .i ((i + 1 : Nat) : Int)]) (f := 28) (ms := ms28) rfl vs hs h0 hk
  refine ⟨vs', k', m, b1, b2, ?_⟩
  have hl : vs.length ≤ DC.wt (.sl (vs.map TInDef.enc)) := by simp [DC.wt]
  have hc := c.len
  have key : Loop E_laws_heldInDefSL1 [.sl (vs'.map TInDef.enc), .i k, .i (0 : Int)] = .ex 0 [.i k'] := held_loop c (fun l k => by simp [E_laws_heldInDefSL1]) [] (by simp only [List.length_nil]; omega)
  rw [eq_laws_heldInDefS]
  simp only [E_laws_heldInDefS, List.getD_cons_zero, List.getD_cons_succ, DC.bb_b, DC.ii_i, DC.ss_s, DC.ll_sl, key, Out.andThenB]
  rfl
theorem mhS_InDef (vs : List TInDef) (k : Int) (h0 : 0 ≤ k) (hk : k + 30 * ((DC.wt (.sl (vs.map TInDef.enc)) : Nat) : Int) < 4611686018427387904) : ∃ (vs' : List TInDef) (k' : Int), Mk mT mTab 28 (vs.map TInDef.enc) k (vs'.map TInDef.enc) k' ∧ k ≤ k' ∧ k' ≤ k + 30 * ((DC.wt (.sl (vs.map TInDef.enc)) : Nat) : Int) ∧ r_laws_heldInDefS [.sl (vs'.map TInDef.enc), .i k] = .ret [.i k'] := mhS_InDef' vs (fun v _ => mh_InDef v) k h0 hk
theorem mh_FieldDef (v : TFieldDef) : ∀ k : Int, 0 ≤ k → k + 30 * ((1 + wtL (TFieldDef.enc v) : Nat) : Int) < 4611686018427387904 → ∃ (x' : TFieldDef) (k' : Int), (MarkRow mT mTab ms27 TFieldDef.enc v k x' k' ∧ (∀ (l : List (List DC)) (i : Nat), i < l.length → l.length ≤ 9223372036854775807 → l.getD i [] = TFieldDef.enc x' → E_laws_heldFieldDefSL1 [.sl l, .i k, .i (i : Int)] = .norm [.sl l, .i k', .i ((i + 1 : Nat) : Int)])) ∧ k ≤ k' ∧ k' ≤ k + 30 * ((1 + wtL (TFieldDef.enc v) : Nat) : Int) := by
  intro k h0 hk
  rw [wsum_FieldDef, wsum_Type] at hk
  rw [wsum_FieldDef, wsum_Type]
  obtain ⟨a2, k2, ⟨n2, e2⟩, b2, c2, h2⟩ := mhS_InDef v.args (k + 1 + 1) (by omega) (by omega)
  obtain ⟨a5, k5, ⟨n5, e5⟩, b5, c5, h5⟩ := mhS_Dir v.dirs (k2 + 1 + 1) (by omega) (by omega)
  refine ⟨⟨mtx (k), mtx (k + 1), a2, ⟨mtx (k2), mtx (k2 + 1)⟩, a5⟩, k5, ⟨⟨n2 + n5, fun m hm r => ?_⟩, ?_⟩, by omega, by omega⟩
  · refine ⟨k5, ?_⟩
    rw [TFieldDef.enc_eq, TFieldDef.enc_eq]
    refine rowActs_txt (s := mtx (k)) rfl (rowActs_inc (by omega) ?_)
    refine rowActs_txt (s := mtx (k + 1)) rfl (rowActs_inc (by omega) ?_)
    refine rowActs_sub (l := v.args.map TInDef.enc) rfl (mkF_up (by omega) e2) (rowActs_upd ⟨by omega, by omega⟩ ?_)
    refine rowActs_txt (s := mtx (k2)) rfl (rowActs_inc (by omega) ?_)
    refine rowActs_txt (s := mtx (k2 + 1)) rfl (rowActs_inc (by omega) ?_)
    refine rowActs_sub (l := v.dirs.map TDir.enc) rfl (mkF_up (by omega) e5) (rowActs_upd ⟨by omega, by omega⟩ ?_)
    exact rfl
  · intro l i hi hl hg
    have m0 : E_laws_markText [.i (k)] = .ret [.s (mtx (k))] := mtx_eq (by omega) (by omega)
    have w0 : IntKind.i64.wrap (k + 1) = k + 1 := wrap64 (by omega) (by omega)
    have m1 : E_laws_markText [.i (k + 1)] = .ret [.s (mtx (k + 1))] := mtx_eq (by omega) (by omega)
    have w1 : IntKind.i64.wrap (k + 1 + 1) = k + 1 + 1 := wrap64 (by omega) (by omega)
    have g2 : ¬ k2 < 0 := by omega
    have m3 : E_laws_markText [.i (k2)] = .ret [.s (mtx (k2))] := mtx_eq (by omega) (by omega)
    have w3 : IntKind.i64.wrap (k2 + 1) = k2 + 1 := wrap64 (by omega) (by omega)
    have m4 : E_laws_markText [.i (k2 + 1)] = .ret [.s (mtx (k2 + 1))] := mtx_eq (by omega) (by omega)
    have w4 : IntKind.i64.wrap (k2 + 1 + 1) = k2 + 1 + 1 := wrap64 (by omega) (by omega)
    have g5 : ¬ k5 < 0 := by omega
    have hc1 : (i : Int) < (l.length : Int) := by omega
    simp only [E_laws_heldFieldDefSL1, List.getD_cons_zero, List.getD_cons_succ, DC.bb_b, DC.ii_i, DC.ss_s, DC.ll_sl, Int.toNat_natCast, hg, TFieldDef.enc_eq, m0, w0, m1, w1, h2, m3, w3, m4, w4, h5, eq_laws_markText, Out.bindR_ret]
    simp [hi, hc1, wrap_succ hi hl, g2, g5, m0, w0, m1, w1, h2, m3, w3, m4, w4, h5]
theorem mhS_FieldDef' (vs : List TFieldDef) (hs : ∀ v ∈ vs, ∀ k : Int, 0 ≤ k → k + 30 * ((1 + wtL (TFieldDef.enc v) : Nat) : Int) < 4611686018427387904 → ∃ (x' : TFieldDef) (k' : Int), (MarkRow mT mTab ms27 TFieldDef.enc v k x' k' ∧ (∀ (l : List (List DC)) (i : Nat), i < l.length → l.length ≤ 9223372036854775807 → l.getD i [] = TFieldDef.enc x' → E_laws_heldFieldDefSL1 [.sl l, .i k, .i (i : Int)] = .norm [.sl l, .i k', .i ((i + 1 : Nat) : Int)])) ∧ k ≤ k' ∧ k' ≤ k + 30 * ((1 + wtL (TFieldDef.enc v) : Nat) : Int)) (k : Int) (h0 : 0 ≤ k) (hk : k + 30 * ((DC.wt (.sl (vs.map TFieldDef.enc)) : Nat) : Int) < 4611686018427387904) : ∃ (vs' : List TFieldDef) (k' : Int), Mk mT mTab 27 (vs.map TFieldDef.enc) k (vs'.map TFieldDef.enc) k' ∧ k ≤ k' ∧ k' ≤ k + 30 * ((DC.wt (.sl (vs.map TFieldDef.enc)) : Nat) : Int) ∧ r_laws_heldFieldDefS [.sl (vs'.map TFieldDef.enc), .i k] = .ret [.i k'] := by
  obtain ⟨vs', k', m, b1, b2, c⟩ := mark_all (Q := fun k x' k' => ∀ (l : List (List DC)) (i : Nat), i < l.length → l.length ≤ 9223372036854775807 → l.getD i [] = TFieldDef.enc x' → E_laws_heldFieldDefSL1 [.sl l, .i k, .i (i : Int)] = .norm [.sl l, .i k', .i ((i + 1 : Nat) : Int)]) (f := 27) (ms := ms27) rfl vs hs h0 hk
  refine ⟨vs', k', m, b1, b2, ?_⟩
  have hl : vs.length ≤ DC.wt (.sl (vs.map TFieldDef.enc)) := by simp [DC.wt]
  have hc := c.len
  have key : Loop E_laws_heldFieldDefSL1 [.sl (vs'.map TFieldDef.enc), .i k, .i (0 : Int)] = .ex 0 [.i k'] := held_loop c (fun l k => by simp [E_laws_heldFieldDefSL1]) [] (by simp only [List.length_nil]; omega)
  rw [eq_laws_heldFieldDefS]
  simp only [E_laws_heldFieldDefS, List.getD_cons_zero, List.getD_cons_succ, DC.bb_b, DC.ii_i, DC.ss_s, DC.ll_sl, key, Out.andThenB]
  rfl
theorem mhS_FieldDef (vs : List TFieldDef) (k : Int) (h0 : 0 ≤ k) (hk : k + 30 * ((DC.wt (.sl (vs.map TFieldDef.enc)) : Nat) : Int) < 4611686018427387904) : ∃ (vs' : List TFieldDef) (k' : Int), Mk mT mTab 27 (vs.map TFieldDef.enc) k (vs'.map TFieldDef.enc) k' ∧ k ≤ k' ∧ k' ≤ k + 30 * ((DC.wt (.sl (vs.map TFieldDef.enc)) : Nat) : Int) ∧ r_laws_heldFieldDefS [.sl (vs'.map TFieldDef.enc), .i k] = .ret [.i k'] := mhS_FieldDef' vs (fun v _ => mh_FieldDef v) k h0 hk
theorem mh_EnumDef (v : TEnumDef) : ∀ k : Int, 0 ≤ k → k + 30 * ((1 + wtL (TEnumDef.enc v) : Nat) : Int) < 4611686018427387904 → ∃ (x' : TEnumDef) (k' : Int), (MarkRow mT mTab ms29 TEnumDef.enc v k x' k' ∧ (∀ (l : List (List DC)) (i : Nat), i < l.length → l.length ≤ 9223372036854775807 → l.getD i [] = TEnumDef.enc x' → E_laws_heldEnumDefSL1 [.sl l, .i k, .i (i : Int)] = .norm [.sl l, .i k', .i ((i + 1 : Nat) : Int)])) ∧ k ≤ k' ∧ k' ≤ k + 30 * ((1 + wtL (TEnumDef.enc v) : Nat) : Int) := by
  intro k h0 hk
  rw [wsum_EnumDef] at hk
  rw [wsum_EnumDef]
  obtain ⟨a2, k2, ⟨n2, e2⟩, b2, c2, h2⟩ := mhS_Dir v.dirs (k + 1 + 1) (by omega) (by omega)
  refine ⟨⟨mtx (k), mtx (k + 1), a2⟩, k2, ⟨⟨n2, fun m hm r => ?_⟩, ?_⟩, by omega, by omega⟩
  · refine ⟨k2, ?_⟩
    rw [TEnumDef.enc_eq, TEnumDef.enc_eq]
    refine rowActs_txt (s := mtx (k)) rfl (rowActs_inc (by omega) ?_)
    refine rowActs_txt (s := mtx (k + 1)) rfl (rowActs_inc (by omega) ?_)
    refine rowActs_sub (l := v.dirs.map TDir.enc) rfl (mkF_up (by omega) e2) (rowActs_upd ⟨by omega, by omega⟩ ?_)
    exact rfl
  · intro l i hi hl hg
    have m0 : E_laws_markText [.i (k)] = .ret [.s (mtx (k))] := mtx_eq (by omega) (by omega)
    have w0 : IntKind.i64.wrap (k + 1) = k + 1 := wrap64 (by omega) (by omega)
    have m1 : E_laws_markText [.i (k + 1)] = .ret [.s (mtx (k + 1))] := mtx_eq (by omega) (by omega)
    have w1 : IntKind.i64.wrap (k + 1 + 1) = k + 1 + 1 := wrap64 (by omega) (by omega)
    have g2 : ¬ k2 < 0 := by omega
    have hc1 : (i : Int) < (l.length : Int) := by omega
    simp only [E_laws_heldEnumDefSL1, List.getD_cons_zero, List.getD_cons_succ, DC.bb_b, DC.ii_i, DC.ss_s, DC.ll_sl, Int.toNat_natCast, hg, TEnumDef.enc_eq, m0, w0, m1, w1, h2, eq_laws_markText, Out.bindR_ret]
    simp [hi, hc1, wrap_succ hi hl, g2, m0, w0, m1, w1, h2]
theorem mhS_EnumDef' (vs : List TEnumDef) (hs : ∀ v ∈ vs, ∀ k : Int, 0 ≤ k → k + 30 * ((1 + wtL (TEnumDef.enc v) : Nat) : Int) < 4611686018427387904 → ∃ (x' : TEnumDef) (k' : Int), (MarkRow mT mTab ms29 TEnumDef.enc v k x' k' ∧ (∀ (l : List (List DC)) (i : Nat), i < l.length → l.length ≤ 9223372036854775807 → l.getD i [] = TEnumDef.enc x' → E_laws_heldEnumDefSL1 [.sl l, .i k, .i (i : Int)] = .norm [.sl l, .i k', .i ((i + 1 : Nat) : Int)])) ∧ k ≤ k' ∧ k' ≤ k + 30 * ((1 + wtL (TEnumDef.enc v) : Nat) : Int)) (k : Int) (h0 : 0 ≤ k) (hk : k + 30 * ((DC.wt (.sl (vs.map TEnumDef.enc)) : Nat) : Int) < 4611686018427387904) : ∃ (vs' : List TEnumDef) (k' : Int), Mk mT mTab 29 (vs.map TEnumDef.enc) k (vs'.map TEnumDef.enc) k' ∧ k ≤ k' ∧ k' ≤ k + 30 * ((DC.wt (.sl (vs.map TEnumDef.enc)) : Nat) : Int) ∧ r_laws_heldEnumDefS [.sl (vs'.map TEnumDef.enc), .i k] = .ret [.i k'] := by
  obtain ⟨vs', k', m, b1, b2, c⟩ := mark_all (Q := fun k x' k' => ∀ (l : List (List DC)) (i : Nat), i < l.length → l.length ≤ 9223372036854775807 → l.getD i [] = TEnumDef.enc x' → E_laws_heldEnumDefSL1 [.sl l, .i k, .i (i : Int)] = .norm [.sl l, .i k', .i ((i + 1 : Nat) : Int)]) (f := 29) (ms := ms29) rfl vs hs h0 hk
  refine ⟨vs', k', m, b1, b2, ?_⟩
  have hl : vs.length ≤ DC.wt (.sl (vs.map TEnumDef.enc)) := by simp [DC.wt]
  have hc := c.len
  have key : Loop E_laws_heldEnumDefSL1 [.sl (vs'.map TEnumDef.enc), .i k, .i (0 : Int)] = .ex 0 [.i k'] := held_loop c (fun l k => by simp [E_laws_heldEnumDefSL1]) [] (by simp only [List.length_nil]; omega)
  rw [eq_laws_heldEnumDefS]
  simp only [E_laws_heldEnumDefS, List.getD_cons_zero, List.getD_cons_succ, DC.bb_b, DC.ii_i, DC.ss_s, DC.ll_sl, key, Out.andThenB]
  rfl
theorem mhS_EnumDef (vs : List TEnumDef) (k : Int) (h0 : 0 ≤ k) (hk : k + 30 * ((DC.wt (.sl (vs.map TEnumDef.enc)) : Nat) : Int) < 4611686018427387904) : ∃ (vs' : List TEnumDef) (k' : Int), Mk mT mTab 29 (vs.map TEnumDef.enc) k (vs'.map TEnumDef.enc) k' ∧ k ≤ k' ∧ k' ≤ k + 30 * ((DC.wt (.sl (vs.map TEnumDef.enc)) : Nat) : Int) ∧ r_laws_heldEnumDefS [.sl (vs'.map TEnumDef.enc), .i k] = .ret [.i k'] := mhS_EnumDef' vs (fun v _ => mh_EnumDef v) k h0 hk
theorem mh_Root (v : TRoot) : ∀ k : Int, 0 ≤ k → k + 30 * ((1 + wtL (TRoot.enc v) : Nat) : Int) < 4611686018427387904 → ∃ (x' : TRoot) (k' : Int), (MarkRow mT mTab ms30 TRoot.enc v k x' k' ∧ (∀ (l : List (List DC)) (i : Nat), i < l.length → l.length ≤ 9223372036854775807 → l.getD i [] = TRoot.enc x' → E_laws_heldRootSL1 [.sl l, .i k, .i (i : Int)] = .norm [.sl l, .i k', .i ((i + 1 : Nat) : Int)])) ∧ k ≤ k' ∧ k' ≤ k + 30 * ((1 + wtL (TRoot.enc v) : Nat) : Int) := by
  intro k h0 hk
  rw [wsum_Root] at hk
  rw [wsum_Root]
  refine ⟨⟨k, mtx (k + 1)⟩, k + 1 + 1, ⟨⟨0, fun m hm r => ?_⟩, ?_⟩, by omega, by omega⟩
  · refine ⟨r, ?_⟩
    rw [TRoot.enc_eq, TRoot.enc_eq]
    refine rowActs_int (rowActs_inc (by omega) ?_)
    refine rowActs_txt (s := mtx (k + 1)) rfl (rowActs_inc (by omega) ?_)
    exact rfl
  · intro l i hi hl hg
    have w0 : IntKind.i64.wrap (k + 1) = k + 1 := wrap64 (by omega) (by omega)
    have m1 : E_laws_markText [.i (k + 1)] = .ret [.s (mtx (k + 1))] := mtx_eq (by omega) (by omega)
    have w1 : IntKind.i64.wrap (k + 1 + 1) = k + 1 + 1 := wrap64 (by omega) (by omega)
    have hc1 : (i : Int) < (l.length : Int) := by omega
    simp only [E_laws_heldRootSL1, List.getD_cons_zero, List.getD_cons_succ, DC.bb_b, DC.ii_i, DC.ss_s, DC.ll_sl, Int.toNat_natCast, hg, TRoot.enc_eq, w0, m1, w1, eq_laws_markText, Out.bindR_ret]
    simp [hi, hc1, wrap_succ hi hl, w0, m1, w1]
theorem mhS_Root' (vs : List TRoot) (hs : ∀ v ∈ vs, ∀ k : Int, 0 ≤ k → k + 30 * ((1 + wtL (TRoot.enc v) : Nat) : Int) < 4611686018427387904 → ∃ (x' : TRoot) (k' : Int), (MarkRow mT mTab ms30 TRoot.enc v k x' k' ∧ (∀ (l : List (List DC)) (i : Nat), i < l.length → l.length ≤ 9223372036854775807 → l.getD i [] = TRoot.enc x' → E_laws_heldRootSL1 [.sl l, .i k, .i (i : Int)] = .norm [.sl l, .i k', .i ((i + 1 : Nat) : Int)])) ∧ k ≤ k' ∧ k' ≤ k + 30 * ((1 + wtL (TRoot.enc v) : Nat) : Int)) (k : Int) (h0 : 0 ≤ k) (hk : k + 30 * ((DC.wt (.sl (vs.map TRoot.enc)) : Nat) : Int) < 4611686018427387904) : ∃ (vs' : List TRoot) (k' : Int), Mk mT mTab 30 (vs.map TRoot.enc) k (vs'.map TRoot.enc) k' ∧ k ≤ k' ∧ k' ≤ k + 30 * ((DC.wt (.sl (vs.map TRoot.enc)) : Nat) : Int) ∧ r_laws_heldRootS [.sl (vs'.map TRoot.enc), .i k] = .ret [.i k'] := by
  obtain ⟨vs', k', m, b1, b2, c⟩ := mark_all (Q := fun k x' k' => ∀ (l : List (List DC)) (i : Nat), i < l.length → l.length ≤ 9223372036854775807 → l.getD i [] = TRoot.enc x' → E_laws_heldRootSL1 [.sl l, .i k, .i (i : Int)] = .norm [.sl l, .i k', .i ((i + 1 : Nat) : Int)]) (f := 30) (ms := ms30) rfl vs hs h0 hk
  refine ⟨vs', k', m, b1, b2, ?_⟩
  have hl : vs.length ≤ DC.wt (.sl (vs.map TRoot.enc)) := by simp [DC.wt]
  have hc := c.len
  have key : Loop E_laws_heldRootSL1 [.sl (vs'.map TRoot.enc), .i k, .i (0 : Int)] = .ex 0 [.i k'] := held_loop c (fun l k => by simp [E_laws_heldRootSL1]) [] (by simp only [List.length_nil]; omega)
  rw [eq_laws_heldRootS]
  simp only [E_laws_heldRootS, List.getD_cons_zero, List.getD_cons_succ, DC.bb_b, DC.ii_i, DC.ss_s, DC.ll_sl, key, Out.andThenB]
  rfl
theorem mhS_Root (vs : List TRoot) (k : Int) (h0 : 0 ≤ k) (hk : k + 30 * ((DC.wt (.sl (vs.map TRoot.enc)) : Nat) : Int) < 4611686018427387904) : ∃ (vs' : List TRoot) (k' : Int), Mk mT mTab 30 (vs.map TRoot.enc) k (vs'.map TRoot.enc) k' ∧ k ≤ k' ∧ k' ≤ k + 30 * ((DC.wt (.sl (vs.map TRoot.enc)) : Nat) : Int) ∧ r_laws_heldRootS [.sl (vs'.map TRoot.enc), .i k] = .ret [.i k'] := mhS_Root' vs (fun v _ => mh_Root v) k h0 hk
theorem mh_Def (v : TDef) : ∀ k : Int, 0 ≤ k → k + 30 * ((1 + wtL (TDef.enc v) : Nat) : Int) < 4611686018427387904 → ∃ (x' : TDef) (k' : Int), (MarkRow mT mTab ms10 TDef.enc v k x' k' ∧ (∀ (l : List (List DC)) (i : Nat), i < l.length → l.length ≤ 9223372036854775807 → l.getD i [] = TDef.enc x' → E_laws_heldDefSL1 [.sl l, .i k, .i (i : Int)] = .norm [.sl l, .i k', .i ((i + 1 : Nat) : Int)])) ∧ k ≤ k' ∧ k' ≤ k + 30 * ((1 + wtL (TDef.enc v) : Nat) : Int) := by
  intro k h0 hk
  rw [wsum_Def] at hk
  rw [wsum_Def]
  obtain ⟨a4, k4, ⟨n4, e4⟩, b4, c4, h4⟩ := mhS_String v.faces (k + 1 + 1 + 1 + 1) (by omega) (by omega)
  obtain ⟨a5, k5, ⟨n5, e5⟩, b5, c5, h5⟩ := mhS_FieldDef v.fields (k4) (by omega) (by omega)
  obtain ⟨a6, k6, ⟨n6, e6⟩, b6, c6, h6⟩ := mhS_InDef v.inputs (k5) (by omega) (by omega)
  obtain ⟨a7, k7, ⟨n7, e7⟩, b7, c7, h7⟩ := mhS_EnumDef v.values (k6) (by omega) (by omega)
  obtain ⟨a8, k8, ⟨n8, e8⟩, b8, c8, h8⟩ := mhS_Root v.roots (k7) (by omega) (by omega)
  obtain ⟨a10, k10, ⟨n10, e10⟩, b10, c10, h10⟩ := mhS_Dir v.dirs (k8 + 1) (by omega) (by omega)
  refine ⟨⟨k, (k + 1) % 3 == 0, mtx (k + 1 + 1), mtx (k + 1 + 1 + 1), a4, a5, a6, a7, a8, (k8) % 3 == 0, a10⟩, k10, ⟨⟨n4 + n5 + n6 + n7 + n8 + n10, fun m hm r => ?_⟩, ?_⟩, by omega, by omega⟩
  · refine ⟨k10, ?_⟩
    rw [TDef.enc_eq, TDef.enc_eq]
    refine rowActs_int (rowActs_inc (by omega) ?_)
    refine rowActs_bool (rowActs_inc (by omega) ?_)
    refine rowActs_txt (s := mtx (k + 1 + 1)) rfl (rowActs_inc (by omega) ?_)
    refine rowActs_txt (s := mtx (k + 1 + 1 + 1)) rfl (rowActs_inc (by omega) ?_)
    refine rowActs_sub (l := v.faces.map S1) rfl (mkF_up (by omega) e4) (rowActs_upd ⟨by omega, by omega⟩ ?_)
    refine rowActs_sub (l := v.fields.map TFieldDef.enc) rfl (mkF_up (by omega) e5) (rowActs_upd ⟨by omega, by omega⟩ ?_)
    refine rowActs_sub (l := v.inputs.map TInDef.enc) rfl (mkF_up (by omega) e6) (rowActs_upd ⟨by omega, by omega⟩ ?_)
    refine rowActs_sub (l := v.values.map TEnumDef.enc) rfl (mkF_up (by omega) e7) (rowActs_upd ⟨by omega, by omega⟩ ?_)
    refine rowActs_sub (l := v.roots.map TRoot.enc) rfl (mkF_up (by omega) e8) (rowActs_upd ⟨by omega, by omega⟩ ?_)
    refine rowActs_bool (rowActs_inc (by omega) ?_)
    refine rowActs_sub (l := v.dirs.map TDir.enc) rfl (mkF_up (by omega) e10) (rowActs_upd ⟨by omega, by omega⟩ ?_)
    exact rfl
  · intro l i hi hl hg
    have w0 : IntKind.i64.wrap (k + 1) = k + 1 := wrap64 (by omega) (by omega)
    have t1 : Int.tmod (k + 1) 3 = (k + 1) % 3 := Int.tmod_eq_emod_of_nonneg (by omega)
    have w1 : IntKind.i64.wrap (k + 1 + 1) = k + 1 + 1 := wrap64 (by omega) (by omega)
    have m2 : E_laws_markText [.i (k + 1 + 1)] = .ret [.s (mtx (k + 1 + 1))] := mtx_eq (by omega) (by omega)
    have w2 : IntKind.i64.wrap (k + 1 + 1 + 1) = k + 1 + 1 + 1 := wrap64 (by omega) (by omega)
    have m3 : E_laws_markText [.i (k + 1 + 1 + 1)] = .ret [.s (mtx (k + 1 + 1 + 1))] := mtx_eq (by omega) (by omega)
    have w3 : IntKind.i64.wrap (k + 1 + 1 + 1 + 1) = k + 1 + 1 + 1 + 1 := wrap64 (by omega) (by omega)
    have g4 : ¬ k4 < 0 := by omega
    have g5 : ¬ k5 < 0 := by omega
    have g6 : ¬ k6 < 0 := by omega
    have g7 : ¬ k7 < 0 := by omega
    have g8 : ¬ k8 < 0 := by omega
    have t9 : Int.tmod (k8) 3 = (k8) % 3 := Int.tmod_eq_emod_of_nonneg (by omega)
    have w9 : IntKind.i64.wrap (k8 + 1) = k8 + 1 := wrap64 (by omega) (by omega)
    have g10 : ¬ k10 < 0 := by omega
    have hc1 : (i : Int) < (l.length : Int) := by omega
    simp only [E_laws_heldDefSL1, List.getD_cons_zero, List.getD_cons_succ, DC.bb_b, DC.ii_i, DC.ss_s, DC.ll_sl, Int.toNat_natCast, hg, TDef.enc_eq, w0, t1, w1, m2, w2, m3, w3, h4, h5, h6, h7, h8, t9, w9, h10, eq_laws_markText, Out.bindR_ret]
    simp [hi, hc1, wrap_succ hi hl, g4, g5, g6, g7, g8, g10, w0, t1, w1, m2, w2, m3, w3, h4, h5, h6, h7, h8, t9, w9, h10]
theorem mhS_Def' (vs : List TDef) (hs : ∀ v ∈ vs, ∀ k : Int, 0 ≤ k → k + 30 * ((1 + wtL (TDef.enc v) : Nat) : Int) < 4611686018427387904 → ∃ (x' : TDef) (k' : Int), (MarkRow mT mTab ms10 TDef.enc v k x' k' ∧ (∀ (l : List (List DC)) (i : Nat), i < l.length → l.length ≤ 9223372036854775807 → l.getD i [] = TDef.enc x' → E_laws_heldDefSL1 [.sl l, .i k, .i (i : Int)] = .norm [.sl l, .i k', .i ((i + 1 : Nat) : Int)])) ∧ k ≤ k' ∧ k' ≤ k + 30 * ((1 + wtL (TDef.enc v) : Nat) : Int)) (k : Int) (h0 : 0 ≤ k) (hk : k + 30 * ((DC.wt (.sl (vs.map TDef.enc)) : Nat) : Int) < 4611686018427387904) : ∃ (vs' : List TDef) (k' : Int), Mk mT mTab 10 (vs.map TDef.enc) k (vs'.map TDef.enc) k' ∧ k ≤ k' ∧ k' ≤ k + 30 * ((DC.wt (.sl (vs.map TDef.enc)) : Nat) : Int) ∧ r_laws_heldDefS [.sl (vs'.map TDef.enc), .i k] = .ret [.i k'] := by
  obtain ⟨vs', k', m, b1, b2, c⟩ := mark_all (Q := fun k x' k' => ∀ (l : List (List DC)) (i : Nat), i < l.length → l.length ≤ 9223372036854775807 → l.getD i [] = TDef.enc x' → E_laws_heldDefSL1 [.sl l, .i k, .i (i : Int)] = .norm [.sl l, .i k', .i ((i + 1 : Nat) : Int)]) (f := 10) (ms := ms10) rfl vs hs h0 hk
  refine ⟨vs', k', m, b1, b2, ?_⟩
  have hl : vs.length ≤ DC.wt (.sl (vs.map TDef.enc)) := by simp [DC.wt]
  have hc := c.len
  have key : Loop E_laws_heldDefSL1 [.sl (vs'.map TDef.enc), .i k, .i (0 : Int)] = .ex 0 [.i k'] := held_loop c (fun l k => by simp [E_laws_heldDefSL1]) [] (by simp only [List.length_nil]; omega)
  rw [eq_laws_heldDefS]
  simp only [E_laws_heldDefS, List.getD_cons_zero, List.getD_cons_succ, DC.bb_b, DC.ii_i, DC.ss_s, DC.ll_sl, key, Out.andThenB]
  rfl
theorem mhS_Def (vs : List TDef) (k : Int) (h0 : 0 ≤ k) (hk : k + 30 * ((DC.wt (.sl (vs.map TDef.enc)) : Nat) : Int) < 4611686018427387904) : ∃ (vs' : List TDef) (k' : Int), Mk mT mTab 10 (vs.map TDef.enc) k (vs'.map TDef.enc) k' ∧ k ≤ k' ∧ k' ≤ k + 30 * ((DC.wt (.sl (vs.map TDef.enc)) : Nat) : Int) ∧ r_laws_heldDefS [.sl (vs'.map TDef.enc), .i k] = .ret [.i k'] := mhS_Def' vs (fun v _ => mh_Def v) k h0 hk
theorem lim_add {n : Nat} (h : n ≤ 1048576) : n + 1 < LIM := by unfold LIM; omega
theorem lim_zero {n : Nat} (h : n ≤ 1048576) : 0 + n < LIM := by unfold LIM; omega
theorem take_map_succ {α β : Type} {f : α → β} {l : List α} {j : Nat} (h : j < l.length) : (l.take (j + 1)).map f = (l.take j).map f ++ [f l[j]] := by
  rw [List.take_succ_eq_append_getElem h, List.map_append]
  rfl
theorem copyA {α : Type} {enc : α → List DC} {vs : List α} {F : List DC → Out} (hF : ∀ (i : Nat) (hi : i < vs.length), F [.sl (vs.map enc), .sl ((vs.take i).map enc), .i (i : Int)] = .norm [.sl (vs.map enc), .sl ((vs.take i).map enc ++ [enc vs[i]]), .i ((i + 1 : Nat) : Int)])
    (hend : F [.sl (vs.map enc), .sl (vs.map enc), .i (vs.length : Int)] = .ex 0 [.sl (vs.map enc)]) : Loop F [.sl (vs.map enc), .sl [], .i (0 : Int)] = .ex 0 [.sl (vs.map enc)] := by
  have key := Loop_upto (F := F) (st := fun i => [.sl (vs.map enc), .sl ((vs.take i).map enc), .i (i : Int)]) (o := .ex 0 [.sl (vs.map enc)]) vs.length 0 (fun j _ hj => by
    have hi : j < vs.length := by omega
    rw [take_map_succ hi]
    exact hF j hi) (Loop_ex (by rw [Nat.zero_add, List.take_length]; exact hend))
  exact key
theorem copyB {α : Type} {enc : α → List DC} {vs : List α} {F : List DC → Out} (hF : ∀ (i : Nat) (hi : i < vs.length), F [.sl ((vs.take i).map enc), .sl (vs.map enc), .i ((vs.map enc).length : Int), .i (i : Int)] = .norm [.sl ((vs.take i).map enc ++ [enc vs[i]]), .sl (vs.map enc), .i ((vs.map enc).length : Int), .i ((i + 1 : Nat) : Int)])
    (hend : F [.sl (vs.map enc), .sl (vs.map enc), .i ((vs.map enc).length : Int), .i (vs.length : Int)] = .ex 0 [.sl (vs.map enc)]) : Loop F [.sl [], .sl (vs.map enc), .i ((vs.map enc).length : Int), .i (0 : Int)] = .ex 0 [.sl (vs.map enc)] := by
  have key := Loop_upto (F := F) (st := fun i => [.sl ((vs.take i).map enc), .sl (vs.map enc), .i ((vs.map enc).length : Int), .i (i : Int)]) (o := .ex 0 [.sl (vs.map enc)]) vs.length 0 (fun j _ hj => by
    have hi : j < vs.length := by omega
    rw [take_map_succ hi]
    exact hF j hi) (Loop_ex (by rw [Nat.zero_add, List.take_length]; exact hend))
  exact key
theorem cp_spec_l07Copy (v : TValue) : wtL (TValue.enc v) ≤ 1048576 → r_spec_l07Copy [.i v.kind, .s v.text, .sl (v.items.map TValue.enc), .sl (v.names.map S1)] = .ret (TValue.enc v) := by
  induction v using TValue.ind with | h v ih =>
  intro hw
  rw [wsum_Value] at hw
  have hn : v.names.length ≤ 1048576 := by have h := hw; simp only [DC.wt, List.length_map] at h; omega
  have hl : v.items.length ≤ 1048576 := by have h := hw; simp only [DC.wt, List.length_map] at h; omega
  rw [eq_spec_l07Copy]
  simp only [E_spec_l07Copy, List.getD_cons_zero, List.getD_cons_succ, DC.bb_b, DC.ii_i, DC.ss_s, DC.ll_sl, List.length_map, List.length_nil]
  rw [if_pos (lim_zero hn)]
  have key := Loop_upto (F := E_spec_l07CopyL1) (st := fun i => [.i (i : Int), .i v.kind, .s v.text, .sl (v.items.map TValue.enc), .sl (v.names.map S1), .i 0, .s [], .i v.kind, .s v.text, .sl ((v.items.take i).map TValue.enc), .sl (v.names.map S1)]) (o := .ex 0 [.i 0, .s [], .i v.kind, .s v.text, .sl (v.items.map TValue.enc), .sl (v.names.map S1)]) v.items.length 0 (fun j _ hj => ?step) ?fin
  · have key' : Loop E_spec_l07CopyL1 [.i 0, .i v.kind, .s v.text, .sl (v.items.map TValue.enc), .sl (v.names.map S1), .i 0, .s [], .i v.kind, .s v.text, .sl [], .sl ([] ++ v.names.map S1)] = .ex 0 [.i 0, .s [], .i v.kind, .s v.text, .sl (v.items.map TValue.enc), .sl (v.names.map S1)] := key
    rw [key', TValue.enc_eq]
    simp [Out.andThenB]
  case step =>
    have hi : j < v.items.length := by omega
    have hc1 : (j : Int) < (v.items.length : Int) := by omega
    have hv := ih v.items[j] (List.getElem_mem hi) (by have := wtV_mem (List.mem_map_of_mem (f := TValue.enc) (List.getElem_mem hi)); rw [DC.wt] at hw; omega)
    have hL : j + 1 < LIM := lim_add (by omega)
    have hm : min j v.items.length = j := by omega
    rw [take_map_succ hi]
    simp only [E_spec_l07CopyL1, List.getD_cons_zero, List.getD_cons_succ, DC.bb_b, DC.ii_i, DC.ss_s, DC.ll_sl, Int.toNat_natCast, List.length_map, map_getD hi, TValue.enc_eq v.items[j], hv, Out.bindR_ret, List.length_take, hm]
    simp [hi, hc1, hL, Out.andThenB, wrap_succ hi (show v.items.length ≤ 9223372036854775807 by omega), TValue.enc_eq v.items[j]]
  case fin =>
    refine Loop_ex ?_
    rw [Nat.zero_add, List.take_length]
    simp [E_spec_l07CopyL1]
theorem cpS_spec_l10Args (vs : List TArg) (hw : DC.wt (.sl (vs.map TArg.enc)) ≤ 1048576) : r_spec_l10Args [.sl (vs.map TArg.enc)] = .ret [.sl (vs.map TArg.enc)] := by
  have hl : vs.length ≤ 1048576 := by rw [DC.wt, List.length_map] at hw; omega
  rw [eq_spec_l10Args]
  simp only [E_spec_l10Args, List.getD_cons_zero, DC.ll_sl]
  rw [copyA (F := E_spec_l10ArgsL1) (fun j hi => ?step) ?fin]
  · rfl
  case step =>
    have hwj : wtL (TArg.enc vs[j]) ≤ 1048576 := by have := wtV_mem (List.mem_map_of_mem (f := TArg.enc) (List.getElem_mem hi)); rw [DC.wt] at hw; omega
    rw [wsum_Arg] at hwj
    have q0 := cp_spec_l07Copy vs[j].value (by omega)
    rw [TValue.enc_eq] at q0
    have hc1 : (j : Int) < (vs.length : Int) := by omega
    have hL : j + 1 < LIM := lim_add (by omega)
    have hm : min j vs.length = j := by omega
    simp only [E_spec_l10ArgsL1, List.getD_cons_zero, List.getD_cons_succ, DC.bb_b, DC.ii_i, DC.ss_s, DC.ll_sl, Int.toNat_natCast, List.length_map, map_getD hi, TArg.enc_eq vs[j], q0, Out.bindR_ret, List.length_take, hm]
    simp [hi, hc1, hL, Out.andThenB, wrap_succ hi (show vs.length ≤ 9223372036854775807 by omega), TArg.enc_eq vs[j], map_getD hi]
  case fin => simp [E_spec_l10ArgsL1]
theorem cpS_spec_l10Dirs (vs : List TDir) (hw : DC.wt (.sl (vs.map TDir.enc)) ≤ 1048576) : r_spec_l10Dirs [.sl (vs.map TDir.enc)] = .ret [.sl (vs.map TDir.enc)] := by
  have hl : vs.length ≤ 1048576 := by rw [DC.wt, List.length_map] at hw; omega
  rw [eq_spec_l10Dirs]
  simp only [E_spec_l10Dirs, List.getD_cons_zero, DC.ll_sl]
  rw [copyA (F := E_spec_l10DirsL1) (fun j hi => ?step) ?fin]
  · rfl
  case step =>
    have hwj : wtL (TDir.enc vs[j]) ≤ 1048576 := by have := wtV_mem (List.mem_map_of_mem (f := TDir.enc) (List.getElem_mem hi)); rw [DC.wt] at hw; omega
    rw [wsum_Dir] at hwj
    have q0 := cpS_spec_l10Args vs[j].args (by omega)
    have hc1 : (j : Int) < (vs.length : Int) := by omega
    have hL : j + 1 < LIM := lim_add (by omega)
    have hm : min j vs.length = j := by omega
    simp only [E_spec_l10DirsL1, List.getD_cons_zero, List.getD_cons_succ, DC.bb_b, DC.ii_i, DC.ss_s, DC.ll_sl, Int.toNat_natCast, List.length_map, map_getD hi, TDir.enc_eq vs[j], q0, Out.bindR_ret, List.length_take, hm]
    simp [hi, hc1, hL, Out.andThenB, wrap_succ hi (show vs.length ≤ 9223372036854775807 by omega), TDir.enc_eq vs[j], map_getD hi]
  case fin => simp [E_spec_l10DirsL1]
theorem cpS_spec_l13CopyIns (vs : List TInDef) (hw : DC.wt (.sl (vs.map TInDef.enc)) ≤ 1048576) : r_spec_l13CopyIns [.sl (vs.map TInDef.enc)] = .ret [.sl (vs.map TInDef.enc)] := by
  have hl : vs.length ≤ 1048576 := by rw [DC.wt, List.length_map] at hw; omega
  rw [eq_spec_l13CopyIns]
  simp only [E_spec_l13CopyIns, List.getD_cons_zero, DC.ll_sl]
  rw [copyA (F := E_spec_l13CopyInsL1) (fun j hi => ?step) ?fin]
  · rfl
  case step =>
    have hwj : wtL (TInDef.enc vs[j]) ≤ 1048576 := by have := wtV_mem (List.mem_map_of_mem (f := TInDef.enc) (List.getElem_mem hi)); rw [DC.wt] at hw; omega
    rw [wsum_InDef] at hwj
    have q0 := cp_spec_l07Copy vs[j].default' (by omega)
    rw [TValue.enc_eq] at q0
    have q1 := cpS_spec_l10Dirs vs[j].dirs (by omega)
    have hc1 : (j : Int) < (vs.length : Int) := by omega
    have hL : j + 1 < LIM := lim_add (by omega)
    have hm : min j vs.length = j := by omega
    simp only [E_spec_l13CopyInsL1, List.getD_cons_zero, List.getD_cons_succ, DC.bb_b, DC.ii_i, DC.ss_s, DC.ll_sl, Int.toNat_natCast, List.length_map, map_getD hi, TInDef.enc_eq vs[j], q0, q1, Out.bindR_ret, List.length_take, hm]
    simp [hi, hc1, hL, Out.andThenB, wrap_succ hi (show vs.length ≤ 9223372036854775807 by omega), TInDef.enc_eq vs[j], map_getD hi]
  case fin => simp [E_spec_l13CopyInsL1]
theorem cpS_spec_l13CopyValues (vs : List TEnumDef) (hw : DC.wt (.sl (vs.map TEnumDef.enc)) ≤ 1048576) : r_spec_l13CopyValues [.sl (vs.map TEnumDef.enc)] = .ret [.sl (vs.map TEnumDef.enc)] := by
  have hl : vs.length ≤ 1048576 := by rw [DC.wt, List.length_map] at hw; omega
  rw [eq_spec_l13CopyValues]
  simp only [E_spec_l13CopyValues, List.getD_cons_zero, DC.ll_sl]
  rw [copyA (F := E_spec_l13CopyValuesL1) (fun j hi => ?step) ?fin]
  · rfl
  case step =>
    have hwj : wtL (TEnumDef.enc vs[j]) ≤ 1048576 := by have := wtV_mem (List.mem_map_of_mem (f := TEnumDef.enc) (List.getElem_mem hi)); rw [DC.wt] at hw; omega
    rw [wsum_EnumDef] at hwj
    have q0 := cpS_spec_l10Dirs vs[j].dirs (by omega)
    have hc1 : (j : Int) < (vs.length : Int) := by omega
    have hL : j + 1 < LIM := lim_add (by omega)
    have hm : min j vs.length = j := by omega
    simp only [E_spec_l13CopyValuesL1, List.getD_cons_zero, List.getD_cons_succ, DC.bb_b, DC.ii_i, DC.ss_s, DC.ll_sl, Int.toNat_natCast, List.length_map, map_getD hi, TEnumDef.enc_eq vs[j], q0, Out.bindR_ret, List.length_take, hm]
    simp [hi, hc1, hL, Out.andThenB, wrap_succ hi (show vs.length ≤ 9223372036854775807 by omega), TEnumDef.enc_eq vs[j], map_getD hi]
  case fin => simp [E_spec_l13CopyValuesL1]
theorem cpS_spec_l13CopyFields (vs : List TFieldDef) (hw : DC.wt (.sl (vs.map TFieldDef.enc)) ≤ 1048576) : r_spec_l13CopyFields [.sl (vs.map TFieldDef.enc)] = .ret [.sl (vs.map TFieldDef.enc)] := by
  have hl : vs.length ≤ 1048576 := by rw [DC.wt, List.length_map] at hw; omega
  rw [eq_spec_l13CopyFields]
  simp only [E_spec_l13CopyFields, List.getD_cons_zero, DC.ll_sl]
  rw [copyA (F := E_spec_l13CopyFieldsL1) (fun j hi => ?step) ?fin]
  · rfl
  case step =>
    have hwj : wtL (TFieldDef.enc vs[j]) ≤ 1048576 := by have := wtV_mem (List.mem_map_of_mem (f := TFieldDef.enc) (List.getElem_mem hi)); rw [DC.wt] at hw; omega
    rw [wsum_FieldDef] at hwj
    have q0 := cpS_spec_l13CopyIns vs[j].args (by omega)
    have q1 := cpS_spec_l10Dirs vs[j].dirs (by omega)
    have hc1 : (j : Int) < (vs.length : Int) := by omega
    have hL : j + 1 < LIM := lim_add (by omega)
    have hm : min j vs.length = j := by omega
    simp only [E_spec_l13CopyFieldsL1, List.getD_cons_zero, List.getD_cons_succ, DC.bb_b, DC.ii_i, DC.ss_s, DC.ll_sl, Int.toNat_natCast, List.length_map, map_getD hi, TFieldDef.enc_eq vs[j], q0, q1, Out.bindR_ret, List.length_take, hm]
    simp [hi, hc1, hL, Out.andThenB, wrap_succ hi (show vs.length ≤ 9223372036854775807 by omega), TFieldDef.enc_eq vs[j], map_getD hi]
  case fin => simp [E_spec_l13CopyFieldsL1]
theorem cp_spec_l13Copy (v : TDef) (hw : wtL (TDef.enc v) ≤ 1048576) : r_spec_l13Copy [.i v.kind, .b v.ext, .s v.desc, .s v.name, .sl (v.faces.map S1), .sl (v.fields.map TFieldDef.enc), .sl (v.inputs.map TInDef.enc), .sl (v.values.map TEnumDef.enc), .sl (v.roots.map TRoot.enc), .b v.repeat', .sl (v.dirs.map TDir.enc)] = .ret (TDef.enc v) := by
  rw [wsum_Def] at hw
  have u0 : v.faces.length ≤ 1048576 := by have h : DC.wt (.sl (v.faces.map S1)) ≤ 1048576 := (by omega); rw [DC.wt, List.length_map] at h; omega
  have q0 := lim_zero u0
  have q1 := cpS_spec_l13CopyFields v.fields (by omega)
  have q2 := cpS_spec_l13CopyIns v.inputs (by omega)
  have q3 := cpS_spec_l13CopyValues v.values (by omega)
  have u4 : v.roots.length ≤ 1048576 := by have h : DC.wt (.sl (v.roots.map TRoot.enc)) ≤ 1048576 := (by omega); rw [DC.wt, List.length_map] at h; omega
  have q4 := lim_zero u4
  have q5 := cpS_spec_l10Dirs v.dirs (by omega)
  rw [eq_spec_l13Copy, TDef.enc_eq]
  simp only [E_spec_l13Copy, List.getD_cons_zero, List.getD_cons_succ, DC.bb_b, DC.ii_i, DC.ss_s, DC.ll_sl, q0, q1, q2, q3, q4, q5, Out.bindR_ret, List.length_map, List.length_nil, if_true, List.nil_append]
theorem cp_impl_cloneValue (v : TValue) : wtL (TValue.enc v) ≤ 1048576 → r_impl_cloneValue [.i v.kind, .s v.text, .sl (v.items.map TValue.enc), .sl (v.names.map S1)] = .ret (TValue.enc v) := by
  induction v using TValue.ind with | h v ih =>
  intro hw
  rw [wsum_Value] at hw
  have hn : v.names.length ≤ 1048576 := by have h := hw; simp only [DC.wt, List.length_map] at h; omega
  have hl : v.items.length ≤ 1048576 := by have h := hw; simp only [DC.wt, List.length_map] at h; omega
  rw [eq_impl_cloneValue]
  simp only [E_impl_cloneValue, List.getD_cons_zero, List.getD_cons_succ, DC.bb_b, DC.ii_i, DC.ss_s, DC.ll_sl, at_slices_Clone_string (v.names.map S1) (by rw [List.length_map]; omega), Out.bindR_ret]
  have key := Loop_upto (F := E_impl_cloneValueL1) (st := fun i => [.sl (v.items.map TValue.enc), .i ((v.items.map TValue.enc).length : Int), .i (i : Int), .i 0, .s [], .i v.kind, .s v.text, .sl ((v.items.take i).map TValue.enc), .sl (v.names.map S1)]) (o := .ex 0 [.i 0, .s [], .i v.kind, .s v.text, .sl (v.items.map TValue.enc), .sl (v.names.map S1)]) v.items.length 0 (fun j _ hj => ?step) ?fin
  · have key' : Loop E_impl_cloneValueL1 [.sl (v.items.map TValue.enc), .i ((v.items.map TValue.enc).length : Int), .i 0, .i 0, .s [], .i v.kind, .s v.text, .sl [], .sl (v.names.map S1)] = .ex 0 [.i 0, .s [], .i v.kind, .s v.text, .sl (v.items.map TValue.enc), .sl (v.names.map S1)] := key
    rw [key', TValue.enc_eq]
    simp [Out.andThenB]
  case step =>
    have hi : j < v.items.length := by omega
    have hc1 : (j : Int) < (v.items.length : Int) := by omega
    have hv := ih v.items[j] (List.getElem_mem hi) (by have := wtV_mem (List.mem_map_of_mem (f := TValue.enc) (List.getElem_mem hi)); rw [DC.wt] at hw; omega)
    have hL : j + 1 < LIM := lim_add (by omega)
    have hm : min j v.items.length = j := by omega
    rw [take_map_succ hi]
    simp only [E_impl_cloneValueL1, List.getD_cons_zero, List.getD_cons_succ, DC.bb_b, DC.ii_i, DC.ss_s, DC.ll_sl, Int.toNat_natCast, List.length_map, map_getD hi, TValue.enc_eq v.items[j], hv, Out.bindR_ret, List.length_take, hm]
    simp [hi, hc1, hL, Out.andThenB, wrap_succ hi (show v.items.length ≤ 9223372036854775807 by omega), TValue.enc_eq v.items[j]]
  case fin =>
    refine Loop_ex ?_
    rw [Nat.zero_add, List.take_length]
    simp [E_impl_cloneValueL1]
theorem cpS_impl_cloneArgs (vs : List TArg) (hw : DC.wt (.sl (vs.map TArg.enc)) ≤ 1048576) : r_impl_cloneArgs [.sl (vs.map TArg.enc)] = .ret [.sl (vs.map TArg.enc)] := by
  have hl : vs.length ≤ 1048576 := by rw [DC.wt, List.length_map] at hw; omega
  rw [eq_impl_cloneArgs]
  simp only [E_impl_cloneArgs, List.getD_cons_zero, DC.ll_sl]
  rw [copyB (F := E_impl_cloneArgsL1) (fun j hi => ?step) ?fin]
  · rfl
  case step =>
    have hwj : wtL (TArg.enc vs[j]) ≤ 1048576 := by have := wtV_mem (List.mem_map_of_mem (f := TArg.enc) (List.getElem_mem hi)); rw [DC.wt] at hw; omega
    rw [wsum_Arg] at hwj
    have q0 := cp_impl_cloneValue vs[j].value (by omega)
    rw [TValue.enc_eq] at q0
    have hc1 : (j : Int) < (vs.length : Int) := by omega
    have hL : j + 1 < LIM := lim_add (by omega)
    have hm : min j vs.length = j := by omega
    simp only [E_impl_cloneArgsL1, List.getD_cons_zero, List.getD_cons_succ, DC.bb_b, DC.ii_i, DC.ss_s, DC.ll_sl, Int.toNat_natCast, List.length_map, map_getD hi, TArg.enc_eq vs[j], q0, Out.bindR_ret, List.length_take, hm]
    simp [hi, hc1, hL, Out.andThenB, wrap_succ hi (show vs.length ≤ 9223372036854775807 by omega), TArg.enc_eq vs[j], map_getD hi]
  case fin => simp [E_impl_cloneArgsL1]
theorem cpS_impl_cloneDirs (vs : List TDir) (hw : DC.wt (.sl (vs.map TDir.enc)) ≤ 1048576) : r_impl_cloneDirs [.sl (vs.map TDir.enc)] = .ret [.sl (vs.map TDir.enc)] := by
  have hl : vs.length ≤ 1048576 := by rw [DC.wt, List.length_map] at hw; omega
  rw [eq_impl_cloneDirs]
  simp only [E_impl_cloneDirs, List.getD_cons_zero, DC.ll_sl]
  rw [copyB (F := E_impl_cloneDirsL1) (fun j hi => ?step) ?fin]
  · rfl
  case step =>
    have hwj : wtL (TDir.enc vs[j]) ≤ 1048576 := by have := wtV_mem (List.mem_map_of_mem (f := TDir.enc) (List.getElem_mem hi)); rw [DC.wt] at hw; omega
    rw [wsum_Dir] at hwj
    have q0 := cpS_impl_cloneArgs vs[j].args (by omega)
    have hc1 : (j : Int) < (vs.length : Int) := by omega
    have hL : j + 1 < LIM := lim_add (by omega)
    have hm : min j vs.length = j := by omega
    simp only [E_impl_cloneDirsL1, List.getD_cons_zero, List.getD_cons_succ, DC.bb_b, DC.ii_i, DC.ss_s, DC.ll_sl, Int.toNat_natCast, List.length_map, map_getD hi, TDir.enc_eq vs[j], q0, Out.bindR_ret, List.length_take, hm]
    simp [hi, hc1, hL, Out.andThenB, wrap_succ hi (show vs.length ≤ 9223372036854775807 by omega), TDir.enc_eq vs[j], map_getD hi]
  case fin => simp [E_impl_cloneDirsL1]
theorem cpS_impl_cloneIns (vs : List TInDef) (hw : DC.wt (.sl (vs.map TInDef.enc)) ≤ 1048576) : r_impl_cloneIns [.sl (vs.map TInDef.enc)] = .ret [.sl (vs.map TInDef.enc)] := by
  have hl : vs.length ≤ 1048576 := by rw [DC.wt, List.length_map] at hw; omega
  rw [eq_impl_cloneIns]
  simp only [E_impl_cloneIns, List.getD_cons_zero, DC.ll_sl]
  rw [copyB (F := E_impl_cloneInsL1) (fun j hi => ?step) ?fin]
  · rfl
  case step =>
    have hwj : wtL (TInDef.enc vs[j]) ≤ 1048576 := by have := wtV_mem (List.mem_map_of_mem (f := TInDef.enc) (List.getElem_mem hi)); rw [DC.wt] at hw; omega
    rw [wsum_InDef] at hwj
    have q0 := cp_impl_cloneValue vs[j].default' (by omega)
    rw [TValue.enc_eq] at q0
    have q1 := cpS_impl_cloneDirs vs[j].dirs (by omega)
    have hc1 : (j : Int) < (vs.length : Int) := by omega
    have hL : j + 1 < LIM := lim_add (by omega)
    have hm : min j vs.length = j := by omega
    simp only [E_impl_cloneInsL1, List.getD_cons_zero, List.getD_cons_succ, DC.bb_b, DC.ii_i, DC.ss_s, DC.ll_sl, Int.toNat_natCast, List.length_map, map_getD hi, TInDef.enc_eq vs[j], q0, q1, Out.bindR_ret, List.length_take, hm]
    simp [hi, hc1, hL, Out.andThenB, wrap_succ hi (show vs.length ≤ 9223372036854775807 by omega), TInDef.enc_eq vs[j], map_getD hi]
  case fin => simp [E_impl_cloneInsL1]
theorem cpS_impl_cloneEnums (vs : List TEnumDef) (hw : DC.wt (.sl (vs.map TEnumDef.enc)) ≤ 1048576) : r_impl_cloneEnums [.sl (vs.map TEnumDef.enc)] = .ret [.sl (vs.map TEnumDef.enc)] := by
  have hl : vs.length ≤ 1048576 := by rw [DC.wt, List.length_map] at hw; omega
  rw [eq_impl_cloneEnums]
  simp only [E_impl_cloneEnums, List.getD_cons_zero, DC.ll_sl]
  rw [copyB (F := E_impl_cloneEnumsL1) (fun j hi => ?step) ?fin]
  · rfl
  case step =>
    have hwj : wtL (TEnumDef.enc vs[j]) ≤ 1048576 := by have := wtV_mem (List.mem_map_of_mem (f := TEnumDef.enc) (List.getElem_mem hi)); rw [DC.wt] at hw; omega
    rw [wsum_EnumDef] at hwj
    have q0 := cpS_impl_cloneDirs vs[j].dirs (by omega)
    have hc1 : (j : Int) < (vs.length : Int) := by omega
    have hL : j + 1 < LIM := lim_add (by omega)
    have hm : min j vs.length = j := by omega
    simp only [E_impl_cloneEnumsL1, List.getD_cons_zero, List.getD_cons_succ, DC.bb_b, DC.ii_i, DC.ss_s, DC.ll_sl, Int.toNat_natCast, List.length_map, map_getD hi, TEnumDef.enc_eq vs[j], q0, Out.bindR_ret, List.length_take, hm]
    simp [hi, hc1, hL, Out.andThenB, wrap_succ hi (show vs.length ≤ 9223372036854775807 by omega), TEnumDef.enc_eq vs[j], map_getD hi]
  case fin => simp [E_impl_cloneEnumsL1]
theorem cpS_impl_cloneFields (vs : List TFieldDef) (hw : DC.wt (.sl (vs.map TFieldDef.enc)) ≤ 1048576) : r_impl_cloneFields [.sl (vs.map TFieldDef.enc)] = .ret [.sl (vs.map TFieldDef.enc)] := by
  have hl : vs.length ≤ 1048576 := by rw [DC.wt, List.length_map] at hw; omega
  rw [eq_impl_cloneFields]
  simp only [E_impl_cloneFields, List.getD_cons_zero, DC.ll_sl]
  rw [copyB (F := E_impl_cloneFieldsL1) (fun j hi => ?step) ?fin]
  · rfl
  case step =>
    have hwj : wtL (TFieldDef.enc vs[j]) ≤ 1048576 := by have := wtV_mem (List.mem_map_of_mem (f := TFieldDef.enc) (List.getElem_mem hi)); rw [DC.wt] at hw; omega
    rw [wsum_FieldDef] at hwj
    have q0 := cpS_impl_cloneIns vs[j].args (by omega)
    have q1 := cpS_impl_cloneDirs vs[j].dirs (by omega)
    have hc1 : (j : Int) < (vs.length : Int) := by omega
    have hL : j + 1 < LIM := lim_add (by omega)
    have hm : min j vs.length = j := by omega
    simp only [E_impl_cloneFieldsL1, List.getD_cons_zero, List.getD_cons_succ, DC.bb_b, DC.ii_i, DC.ss_s, DC.ll_sl, Int.toNat_natCast, List.length_map, map_getD hi, TFieldDef.enc_eq vs[j], q0, q1, Out.bindR_ret, List.length_take, hm]
    simp [hi, hc1, hL, Out.andThenB, wrap_succ hi (show vs.length ≤ 9223372036854775807 by omega), TFieldDef.enc_eq vs[j], map_getD hi]
  case fin => simp [E_impl_cloneFieldsL1]
theorem cp_impl_cloneDef (v : TDef) (hw : wtL (TDef.enc v) ≤ 1048576) : r_impl_cloneDef [.i v.kind, .b v.ext, .s v.desc, .s v.name, .sl (v.faces.map S1), .sl (v.fields.map TFieldDef.enc), .sl (v.inputs.map TInDef.enc), .sl (v.values.map TEnumDef.enc), .sl (v.roots.map TRoot.enc), .b v.repeat', .sl (v.dirs.map TDir.enc)] = .ret (TDef.enc v) := by
  rw [wsum_Def] at hw
  have u0 : v.faces.length ≤ 1048576 := by have h : DC.wt (.sl (v.faces.map S1)) ≤ 1048576 := (by omega); rw [DC.wt, List.length_map] at h; omega
  have q0 := at_slices_Clone_string (v.faces.map S1) (by rw [List.length_map]; omega)
  have q1 := cpS_impl_cloneFields v.fields (by omega)
  have q2 := cpS_impl_cloneIns v.inputs (by omega)
  have q3 := cpS_impl_cloneEnums v.values (by omega)
  have u4 : v.roots.length ≤ 1048576 := by have h : DC.wt (.sl (v.roots.map TRoot.enc)) ≤ 1048576 := (by omega); rw [DC.wt, List.length_map] at h; omega
  have q4 := at_slices_Clone_impl_Root (v.roots.map TRoot.enc) (by rw [List.length_map]; omega)
  have q5 := cpS_impl_cloneDirs v.dirs (by omega)
  rw [eq_impl_cloneDef, TDef.enc_eq]
  simp only [E_impl_cloneDef, List.getD_cons_zero, List.getD_cons_succ, DC.bb_b, DC.ii_i, DC.ss_s, DC.ll_sl, q0, q1, q2, q3, q4, q5, Out.bindR_ret, List.length_map, List.length_nil, if_true, List.nil_append]
def srtT (l : List TDef) : List TDef := l.mergeSort fun x y => decide (x.name ≤ y.name)
instance : Inhabited TDef := ⟨⟨0, false, [], [], [], [], [], [], [], false, []⟩⟩
theorem srtT_len (l : List TDef) : (srtT l).length = l.length := List.length_mergeSort l
theorem bl_eqS : ∀ (x y : List UInt8), Op.bytesLess x y = decide (x < y)
  | x, [] => by
    have : ¬ x < [] := by simp
    cases x <;> simp [Op.bytesLess]
  | [], b :: y => by simp [Op.bytesLess]
  | a :: x, b :: y => by
    rw [Op.bytesLess, bl_eqS x y]
    simp only [List.cons_lt_cons_iff]
    by_cases h : a < b
    · simp [h]
    · by_cases h' : a = b
      · subst h'; simp
      · simp [h, h']
theorem wd_leS {x y : List UInt8} : (Op.bytesLess x y || x == y) = decide (x ≤ y) := by
  rw [bl_eqS]
  by_cases h : x < y
  · simp [h, List.le_of_lt h]
  · by_cases h' : x = y
    · subst h'; simp [List.le_refl]
    · have : ¬ x ≤ y := fun k => h (by
        rcases List.not_lt.1 h with k2
        exact absurd (List.le_antisymm k k2) h')
      simp [h, h', this]
theorem stbD_enc (l : List TDef) : stbD 3 (l.map TDef.enc) = (srtT l).map TDef.enc := by
  unfold stbD srtT
  refine (List.map_mergeSort fun x _ y _ => ?_).symm
  simp only [nmD, TDef.enc_eq, List.getD_cons_zero, List.getD_cons_succ, DC.ss_s]
theorem take_A (A B out : List TDef) (i k : Nat) (hi : i < A.length) (hA : A.length ≤ 1048576) (hB : B.length ≤ 1048576) (hk : ∀ h : k < B.length, (A[i]'hi).name ≤ (B[k]'h).name) (ho : out.length ≤ 4194304) :
    E_spec_SortDefsL2 [.sl (A.map TDef.enc), .sl (B.map TDef.enc), .sl (out.map TDef.enc), .i (i : Int), .i (k : Int)] = .norm [.sl (A.map TDef.enc), .sl (B.map TDef.enc), .sl ((out ++ [A[i]'hi]).map TDef.enc), .i ((i + 1 : Nat) : Int), .i (k : Int)] := by
  have hc : (i : Int) < (A.length : Int) := by omega
  have ws := wrap_succ hi (show A.length ≤ 9223372036854775807 by omega)
  have hm := map_getD (f := TDef.enc) hi
  rw [TDef.enc_eq (A[i]'hi)] at hm
  have hlim : out.length + 1 < LIM := by unfold LIM; omega
  by_cases h2 : k < B.length
  · have e1 : ¬ ((k : Int) ≥ (B.length : Int)) := by omega
    have e2 : (k : Int) < (B.length : Int) := by omega
    have hm2 := map_getD (f := TDef.enc) h2
    rw [TDef.enc_eq (B[k]'h2)] at hm2
    have hle := hk h2
    generalize A[i]'hi = d at *
    generalize B[k]'h2 = d2 at *
    simp only [E_spec_SortDefsL2, Out.andThen, Out.andThenB, List.getD_cons_zero, List.getD_cons_succ, DC.bb_b, DC.ii_i, DC.ss_s, DC.ll_sl, Int.toNat_natCast, List.length_map, hm, hm2, hc, e1, e2, decide_true, decide_false, if_true, Bool.false_eq_true, if_false, wd_leS, hle, ws, List.map_append, List.map_cons, List.map_nil, TDef.enc_eq d, List.length_cons, List.length_nil, Nat.zero_add, hlim, Int.natCast_nonneg, and_self]
  · have e1 : ((k : Int) ≥ (B.length : Int)) := by omega
    generalize A[i]'hi = d at *
    simp only [E_spec_SortDefsL2, Out.andThen, Out.andThenB, List.getD_cons_zero, List.getD_cons_succ, DC.bb_b, DC.ii_i, DC.ss_s, DC.ll_sl, Int.toNat_natCast, List.length_map, hm, hc, e1, decide_true, decide_false, if_true, Bool.false_eq_true, if_false, ws, List.map_append, List.map_cons, List.map_nil, TDef.enc_eq d, List.length_cons, List.length_nil, Nat.zero_add, hlim, Int.natCast_nonneg, and_self]
theorem take_B (A B out : List TDef) (i k : Nat) (hk : k < B.length) (hA : A.length ≤ 1048576) (hB : B.length ≤ 1048576) (hi : ∀ h : i < A.length, ¬ (A[i]'h).name ≤ (B[k]'hk).name) (ho : out.length ≤ 4194304) :
    E_spec_SortDefsL2 [.sl (A.map TDef.enc), .sl (B.map TDef.enc), .sl (out.map TDef.enc), .i (i : Int), .i (k : Int)] = .norm [.sl (A.map TDef.enc), .sl (B.map TDef.enc), .sl ((out ++ [B[k]'hk]).map TDef.enc), .i (i : Int), .i ((k + 1 : Nat) : Int)] := by
  have hc : (k : Int) < (B.length : Int) := by omega
  have e1 : ¬ ((k : Int) ≥ (B.length : Int)) := by omega
  have ws := wrap_succ hk (show B.length ≤ 9223372036854775807 by omega)
  have hm := map_getD (f := TDef.enc) hk
  rw [TDef.enc_eq (B[k]'hk)] at hm
  have hlim : out.length + 1 < LIM := by unfold LIM; omega
  by_cases h2 : i < A.length
  · have e2 : (i : Int) < (A.length : Int) := by omega
    have hm2 := map_getD (f := TDef.enc) h2
    rw [TDef.enc_eq (A[i]'h2)] at hm2
    have hle := hi h2
    generalize A[i]'h2 = d2 at *
    generalize B[k]'hk = d at *
    simp only [E_spec_SortDefsL2, Out.andThen, Out.andThenB, List.getD_cons_zero, List.getD_cons_succ, DC.bb_b, DC.ii_i, DC.ss_s, DC.ll_sl, Int.toNat_natCast, List.length_map, hm, hm2, hc, e1, e2, decide_true, decide_false, if_true, Bool.false_eq_true, if_false, wd_leS, hle, ws, List.map_append, List.map_cons, List.map_nil, TDef.enc_eq d, List.length_cons, List.length_nil, Nat.zero_add, hlim, Int.natCast_nonneg, and_self]
  · have e2 : ¬ ((i : Int) < (A.length : Int)) := by omega
    generalize B[k]'hk = d at *
    simp only [E_spec_SortDefsL2, Out.andThen, Out.andThenB, List.getD_cons_zero, List.getD_cons_succ, DC.bb_b, DC.ii_i, DC.ss_s, DC.ll_sl, Int.toNat_natCast, List.length_map, hm, hc, e1, e2, decide_true, decide_false, if_true, Bool.false_eq_true, if_false, ws, List.map_append, List.map_cons, List.map_nil, TDef.enc_eq d, List.length_cons, List.length_nil, Nat.zero_add, hlim, Int.natCast_nonneg, and_self]
theorem srt_loop (A B : List TDef) (hA : A.length ≤ 1048576) (hB : B.length ≤ 1048576) : ∀ (m i k : Nat) (out : List TDef), (A.length - i) + (B.length - k) ≤ m → i ≤ A.length → k ≤ B.length → out.length ≤ i + k →
    Loop E_spec_SortDefsL2 [.sl (A.map TDef.enc), .sl (B.map TDef.enc), .sl (out.map TDef.enc), .i (i : Int), .i (k : Int)] = .ex 2 [.sl ((out ++ List.merge (A.drop i) (B.drop k) fun x y => decide (x.name ≤ y.name)).map TDef.enc)] := by
  intro m
  induction m with
  | zero =>
    intro i k out hm hi hk ho
    have h1 : i = A.length := by omega
    have h2 : k = B.length := by omega
    subst h1 h2
    rw [List.drop_length, List.drop_length]
    exact Loop_ex (by simp [E_spec_SortDefsL2, Out.andThen, DC.bb_b, DC.ii_i, DC.ll_sl])
  | succ m ih =>
    intro i k out hm hi hk ho
    by_cases h1 : i < A.length
    · by_cases h2 : k < B.length
      · by_cases hle : (A[i]'h1).name ≤ (B[k]'h2).name
        · rw [Loop_norm (take_A A B out i k h1 hA hB (fun _ => hle) (by omega)), ih (i + 1) k _ (by omega) (by omega) hk (by simp; omega)]
          rw [List.drop_eq_getElem_cons h1, List.drop_eq_getElem_cons h2, List.cons_merge_cons, if_pos (by simpa using hle), ← List.drop_eq_getElem_cons h2]
          simp
        · rw [Loop_norm (take_B A B out i k h2 hA hB (fun _ => hle) (by omega)), ih i (k + 1) _ (by omega) hi (by omega) (by simp; omega)]
          rw [List.drop_eq_getElem_cons h1, List.drop_eq_getElem_cons h2, List.cons_merge_cons, if_neg (by simpa using hle), ← List.drop_eq_getElem_cons h1]
          simp
      · rw [Loop_norm (take_A A B out i k h1 hA hB (fun h => absurd h h2) (by omega)), ih (i + 1) k _ (by omega) (by omega) hk (by simp; omega)]
        have : B.drop k = [] := List.drop_of_length_le (by omega)
        rw [this, List.drop_eq_getElem_cons h1]
        simp
    · have hd : A.drop i = [] := List.drop_of_length_le (by omega)
      by_cases h2 : k < B.length
      · rw [Loop_norm (take_B A B out i k h2 hA hB (fun h => absurd h h1) (by omega)), ih i (k + 1) _ (by omega) hi (by omega) (by simp; omega), hd, List.drop_eq_getElem_cons h2]
        simp
      · have hd2 : B.drop k = [] := List.drop_of_length_le (by omega)
        have e1 : i = A.length := by omega
        have e2 : k = B.length := by omega
        subst e1 e2
        rw [hd, hd2]
        exact Loop_ex (by simp [E_spec_SortDefsL2, Out.andThen, DC.bb_b, DC.ii_i, DC.ll_sl])
theorem wt_perm {l m : List (List DC)} (h : l.Perm m) : DC.wt (.sl l) = DC.wt (.sl m) := by
  have hv : wtV l = wtV m := by
    induction h with
    | nil => rfl
    | cons x _ ih => rw [wtV, wtV, ih]
    | swap x y l => rw [wtV, wtV, wtV, wtV]; omega
    | trans _ _ h1 h2 => rw [h1, h2]
  rw [DC.wt, DC.wt, hv, h.length_eq]
theorem srtT_wt (l : List TDef) : DC.wt (.sl ((srtT l).map TDef.enc)) = DC.wt (.sl (l.map TDef.enc)) := wt_perm ((List.mergeSort_perm l _).map _)
theorem copyS (vs : List TDef) (hw : DC.wt (.sl (vs.map TDef.enc)) ≤ 1048576) : Loop E_spec_SortDefsL1 [.sl (vs.map TDef.enc), .sl [], .i (0 : Int)] = .ex 0 [.sl (vs.map TDef.enc)] := by
  have hl : vs.length ≤ 1048576 := by rw [DC.wt, List.length_map] at hw; omega
  refine copyA (F := E_spec_SortDefsL1) (fun j hi => ?step) ?fin
  case step =>
    have hwj : wtL (TDef.enc vs[j]) ≤ 1048576 := by have := wtV_mem (List.mem_map_of_mem (f := TDef.enc) (List.getElem_mem hi)); rw [DC.wt] at hw; omega
    have q0 := cp_spec_l13Copy vs[j] hwj
    have hc1 : (j : Int) < (vs.length : Int) := by omega
    have hL : j + 1 < LIM := lim_add (by omega)
    have hm : min j vs.length = j := by omega
    simp only [E_spec_SortDefsL1, List.getD_cons_zero, List.getD_cons_succ, DC.bb_b, DC.ii_i, DC.ss_s, DC.ll_sl, Int.toNat_natCast, List.length_map, map_getD hi, TDef.enc_eq vs[j]]
    rw [TDef.enc_eq vs[j]] at q0
    simp only [q0, Out.bindR_ret, List.length_take, hm, List.getD_cons_zero, List.getD_cons_succ, DC.bb_b, DC.ii_i, DC.ss_s, DC.ll_sl]
    simp [hi, hc1, hL, Out.andThenB, wrap_succ hi (show vs.length ≤ 9223372036854775807 by omega), TDef.enc_eq vs[j], map_getD hi]
  case fin => simp [E_spec_SortDefsL1]
theorem cpS_impl_cloneDefs (vs : List TDef) (hw : DC.wt (.sl (vs.map TDef.enc)) ≤ 1048576) : r_impl_cloneDefs [.sl (vs.map TDef.enc)] = .ret [.sl (vs.map TDef.enc)] := by
  have hl : vs.length ≤ 1048576 := by rw [DC.wt, List.length_map] at hw; omega
  rw [eq_impl_cloneDefs]
  simp only [E_impl_cloneDefs, List.getD_cons_zero, DC.ll_sl]
  rw [copyB (F := E_impl_cloneDefsL1) (fun j hi => ?step) ?fin]
  · rfl
  case step =>
    have hwj : wtL (TDef.enc vs[j]) ≤ 1048576 := by have := wtV_mem (List.mem_map_of_mem (f := TDef.enc) (List.getElem_mem hi)); rw [DC.wt] at hw; omega
    have q0 := cp_impl_cloneDef vs[j] hwj
    have hc1 : (j : Int) < (vs.length : Int) := by omega
    have hL : j + 1 < LIM := lim_add (by omega)
    have hm : min j vs.length = j := by omega
    simp only [E_impl_cloneDefsL1, List.getD_cons_zero, List.getD_cons_succ, DC.bb_b, DC.ii_i, DC.ss_s, DC.ll_sl, Int.toNat_natCast, List.length_map, map_getD hi, TDef.enc_eq vs[j]]
    rw [TDef.enc_eq vs[j]] at q0
    simp only [q0, Out.bindR_ret, List.length_take, hm, List.getD_cons_zero, List.getD_cons_succ, DC.bb_b, DC.ii_i, DC.ss_s, DC.ll_sl]
    simp [hi, hc1, hL, Out.andThenB, wrap_succ hi (show vs.length ≤ 9223372036854775807 by omega), TDef.enc_eq vs[j], map_getD hi]
  case fin => simp [E_impl_cloneDefsL1]
theorem impl_SortDefs (l : List TDef) (hw : DC.wt (.sl (l.map TDef.enc)) ≤ 1048576) : r_impl_SortDefs [.sl (l.map TDef.enc)] = .ret [.sl ((srtT l).map TDef.enc)] := by
  have hl : l.length ≤ 1048576 := by rw [DC.wt, List.length_map] at hw; omega
  have hL : l.length < LIM := by unfold LIM; omega
  rw [eq_impl_SortDefs]
  simp only [E_impl_SortDefs, List.getD_cons_zero, DC.ll_sl, cpS_impl_cloneDefs l hw, Out.bindR_ret, List.length_map, hL, if_true, stbD_enc]
theorem srtT_short {l : List TDef} (h : l.length < 2) : srtT l = l := by
  match l, h with
  | [], _ => simp [srtT]
  | [x], _ => simp [srtT]
theorem spec_SortDefs : ∀ (m : Nat) (l : List TDef), l.length ≤ m → DC.wt (.sl (l.map TDef.enc)) ≤ 1048576 → r_spec_SortDefs [.sl (l.map TDef.enc)] = .ret [.sl ((srtT l).map TDef.enc)] := by
  intro m
  induction m with
  | zero =>
    intro l hl hw
    have : l = [] := List.eq_nil_of_length_eq_zero (by omega)
    subst this
    rw [eq_spec_SortDefs, srtT_short (by simp)]
    have := copyS [] hw
    simp only [List.map_nil] at this
    simp only [E_spec_SortDefs, List.map_nil, List.getD_cons_zero, DC.ll_sl, List.length_nil]
    rw [this]
    rfl
  | succ m ih =>
    intro l hl hw
    have hlen : l.length ≤ 1048576 := by rw [DC.wt, List.length_map] at hw; omega
    rw [eq_spec_SortDefs]
    simp only [E_spec_SortDefs, List.getD_cons_zero, DC.ll_sl, List.length_map]
    by_cases h2 : l.length < 2
    · have h2' : (l.length : Int) < 2 := by omega
      simp only [h2', decide_true, if_true, copyS l hw, srtT_short h2]
      rfl
    · have h2' : ¬ (l.length : Int) < 2 := by omega
      have hd : (l.length : Int).tdiv 2 = ((l.length / 2 : Nat) : Int) := by
        rw [Int.tdiv_eq_ediv_of_nonneg (by omega)]
        omega
      have hw' : IntKind.i64.wrap ((l.length : Int).tdiv 2) = ((l.length / 2 : Nat) : Int) := by rw [hd]; exact wrap64 (by omega) (by omega)
      have h22 : ¬ ((2 : Int) = 0) := by decide
      have hle : ((l.length / 2 : Nat) : Int) ≤ (l.length : Int) := by omega
      have hsplit : DC.wt (.sl ((l.take (l.length / 2)).map TDef.enc)) + DC.wt (.sl ((l.drop (l.length / 2)).map TDef.enc)) = DC.wt (.sl (l.map TDef.enc)) := by
        have e : l.map TDef.enc = (l.take (l.length / 2)).map TDef.enc ++ (l.drop (l.length / 2)).map TDef.enc := by rw [← List.map_append, List.take_append_drop]
        conv => rhs; rw [e]
        rw [DC.wt, DC.wt, DC.wt, List.length_append, wtV_append]
        omega
      simp only [h2', decide_false, Bool.false_eq_true, if_false, h22, hw', Int.toNat_natCast, ← List.map_take, ← List.map_drop]
      rw [if_pos ⟨by omega, hle⟩, ih (l.take (l.length / 2)) (by rw [List.length_take]; omega) (by omega)]
      simp only [Out.bindR_ret]
      rw [ih (l.drop (l.length / 2)) (by rw [List.length_drop]; omega) (by omega)]
      have hlp := srt_loop (srtT (l.take (l.length / 2))) (srtT (l.drop (l.length / 2))) (by rw [srtT_len, List.length_take]; omega) (by rw [srtT_len, List.length_drop]; omega) _ 0 0 [] (Nat.le_refl _) (by omega) (by omega) (by simp)
      have hmg : List.merge (srtT (l.take (l.length / 2))) (srtT (l.drop (l.length / 2))) (fun x y => decide (x.name ≤ y.name)) = srtT l := by
        unfold srtT
        rw [mg_ms (fun x : TDef => x.name), List.take_append_drop]
      simp only [List.drop_zero, List.nil_append, hmg] at hlp
      have hlp' : Loop E_spec_SortDefsL2 [.sl ((srtT (l.take (l.length / 2))).map TDef.enc), .sl ((srtT (l.drop (l.length / 2))).map TDef.enc), .sl [], .i (0 : Int), .i (0 : Int)] = .ex 2 [.sl ((srtT l).map TDef.enc)] := hlp
      simp only [Out.bindR_ret, List.getD_cons_zero, DC.ll_sl, hlp']
      rw [if_pos ⟨by omega, hle⟩]
      simp [Out.andThenB, DC.ll_sl]
mutual
theorem wfc_ok {ty : Nat → Option TI} : ∀ {t : CT} {c : DC}, WfC ty t c → c.ok
  | _, _, .b x => by simp [DC.ok]
  | _, _, .i k n _ _ => by simp [DC.ok]
  | _, _, .s l h => by rw [DC.ok]; simpa [maxLen] using h
  | _, _, .sl e te l h1 h2 h3 => by rw [DC.ok]; exact ⟨by simpa [maxLen] using h2, wfv_ok h3⟩
  | _, _, .nil e => by rw [DC.ok]; exact ⟨by simp, by rw [okV]; trivial⟩
theorem wfl_ok {ty : Nat → Option TI} : ∀ {ts : List CT} {x : List DC}, WfL ty ts x → okL x
  | _, _, .nil => by rw [okL]; trivial
  | _, _, .cons t ts x xs h1 h2 => by rw [okL]; exact ⟨wfc_ok h1, wfl_ok h2⟩
theorem wfv_ok {ty : Nat → Option TI} : ∀ {ts : List CT} {l : List (List DC)}, WfV ty ts l → okV l
  | _, _, .nil ts => by rw [okV]; trivial
  | _, _, .cons ts x l h1 h2 => by rw [okV]; exact ⟨wfl_ok h1, wfv_ok h2⟩
end
theorem decV {α : Type} {ty : Nat → Option TI} {enc : α → List DC} {cts : List CT} : ∀ {l : List (List DC)}, (∀ x ∈ l, WfL ty cts x → ∃ v, x = enc v) → WfV ty cts l → ∃ vs : List α, l = vs.map enc
  | [], _, _ => ⟨[], rfl⟩
  | x :: l, h, hw => by
    cases hw with
    | cons ts x l h1 h2 =>
      obtain ⟨v, hv⟩ := h x (by simp) h1
      obtain ⟨vs, hvs⟩ := decV (fun y hy => h y (by simp [hy])) h2
      exact ⟨v :: vs, by rw [List.map_cons, hv, hvs]⟩
theorem decC {α : Type} {ty : Nat → Option TI} {enc : α → List DC} {e : Nat} {te : TI} {c : DC} (hte : ty e = some te) (h : ∀ l, c = .sl l → ∀ x ∈ l, WfL ty te.cts x → ∃ v, x = enc v) (hw : WfC ty (.sl e) c) : ∃ vs : List α, c = .sl (vs.map enc) := by
  cases hw with
  | sl e te' l h1 h2 h3 =>
    rw [hte] at h1
    obtain rfl := Option.some.inj h1
    obtain ⟨vs, hvs⟩ := decV (h l rfl) h3
    exact ⟨vs, by rw [hvs]⟩
  | nil => exact ⟨[], rfl⟩
theorem dec_i {ty : Nat → Option TI} {k : IntKind} {c : DC} (h : WfC ty (.i k) c) : ∃ n, c = .i n ∧ k.min ≤ n ∧ n ≤ k.max := by
  cases h with
  | i k n h1 h2 => exact ⟨n, rfl, h1, h2⟩
theorem dec_b {ty : Nat → Option TI} {c : DC} (h : WfC ty .b c) : ∃ n, c = .b n := by cases h; exact ⟨_, rfl⟩
theorem dec_s {ty : Nat → Option TI} {c : DC} (h : WfC ty .s c) : ∃ n, c = .s n := by cases h; exact ⟨_, rfl⟩
theorem dec_S1 {ty : Nat → Option TI} {x : List DC} (h : WfL ty [.s] x) : ∃ n, x = S1 n := by
  cases h with
  | cons t ts x xs h1 h2 =>
    cases h2
    obtain ⟨n, rfl⟩ := dec_s h1
    exact ⟨n, rfl⟩
theorem wfl_cons {ty : Nat → Option TI} {t : CT} {ts : List CT} {x : List DC} (h : WfL ty (t :: ts) x) : ∃ c xs, x = c :: xs ∧ WfC ty t c ∧ WfL ty ts xs := by
  cases h with
  | cons t ts x xs h1 h2 => exact ⟨x, xs, rfl, h1, h2⟩
theorem wfl_nil {ty : Nat → Option TI} {x : List DC} (h : WfL ty [] x) : x = [] := by cases h; rfl
theorem mem_row_lt {l : List (List DC)} {x : List DC} (h : x ∈ l) : SizeOf.sizeOf x < SizeOf.sizeOf (DC.sl l) := by
  have := List.sizeOf_lt_of_mem h
  simp only [DC.sl.sizeOf_spec]
  omega
theorem tyS : cfg.ty 9 = some ⟨.str, [.s], 16, [], false⟩ := by kernel_rfl
theorem ty_Value : cfg.ty 122 = some ⟨.struct, [.i .i64, .s, .sl 122, .sl 9], 72, [(0, 1, false), (1, 1, false), (2, 1, false), (3, 1, false)], false⟩ := by kernel_rfl
theorem dec_Value {x : List DC} (h0 : WfL cfg.ty [.i .i64, .s, .sl 122, .sl 9] x) : ∃ v : TValue, x = TValue.enc v := by
  have h := h0
  obtain ⟨c0, r0, e0, w0, h⟩ := wfl_cons h
  obtain ⟨n0, rfl, _, _⟩ := dec_i w0
  obtain ⟨c1, r1, e1, w1, h⟩ := wfl_cons h
  obtain ⟨n1, rfl⟩ := dec_s w1
  obtain ⟨c2, r2, e2, w2, h⟩ := wfl_cons h
  have hrec2 : ∀ l, c2 = .sl l → ∀ y ∈ l, WfL cfg.ty [.i .i64, .s, .sl 122, .sl 9] y → ∃ v : TValue, y = TValue.enc v := fun l hl y hy hw => by
    have hlt : SizeOf.sizeOf y < SizeOf.sizeOf x := by
      have := mem_row_lt hy
      rw [← hl] at this
      subst e0 e1 e2
      simp only [List.cons.sizeOf_spec]
      omega
    exact dec_Value hw
  obtain ⟨n2, rfl⟩ := decC (enc := TValue.enc) ty_Value hrec2 w2
  obtain ⟨c3, r3, e3, w3, h⟩ := wfl_cons h
  obtain ⟨n3, rfl⟩ := decC (enc := S1) tyS (fun l _ y hy hw => dec_S1 hw) w3
  have hn := wfl_nil h
  refine ⟨⟨n0, n1, n2, n3⟩, ?_⟩
  rw [TValue.enc_eq]
  subst hn
  simp only [e0, e1, e2, e3]
termination_by SizeOf.sizeOf x
theorem ty_Arg : cfg.ty 168 = some ⟨.struct, [.s, .i .i64, .s, .sl 122, .sl 9], 88, [(0, 1, false), (1, 4, true)], false⟩ := by kernel_rfl
theorem dec_Arg {x : List DC} (h0 : WfL cfg.ty [.s, .i .i64, .s, .sl 122, .sl 9] x) : ∃ v : TArg, x = TArg.enc v := by
  have h := h0
  obtain ⟨c0, r0, e0, w0, h⟩ := wfl_cons h
  obtain ⟨n0, rfl⟩ := dec_s w0
  obtain ⟨c1, r1, e1, w1, h⟩ := wfl_cons h
  obtain ⟨n1, rfl, _, _⟩ := dec_i w1
  obtain ⟨c2, r2, e2, w2, h⟩ := wfl_cons h
  obtain ⟨n2, rfl⟩ := dec_s w2
  obtain ⟨c3, r3, e3, w3, h⟩ := wfl_cons h
  obtain ⟨n3, rfl⟩ := decC (enc := TValue.enc) ty_Value (fun l _ y hy hw => dec_Value hw) w3
  obtain ⟨c4, r4, e4, w4, h⟩ := wfl_cons h
  obtain ⟨n4, rfl⟩ := decC (enc := S1) tyS (fun l _ y hy hw => dec_S1 hw) w4
  have hn := wfl_nil h
  refine ⟨⟨n0, ⟨n1, n2, n3, n4⟩⟩, ?_⟩
  rw [TArg.enc_eq]
  subst hn
  simp only [e0, e1, e2, e3, e4]
theorem ty_Dir : cfg.ty 133 = some ⟨.struct, [.s, .sl 168], 40, [(0, 1, false), (1, 1, false)], false⟩ := by kernel_rfl
theorem dec_Dir {x : List DC} (h0 : WfL cfg.ty [.s, .sl 168] x) : ∃ v : TDir, x = TDir.enc v := by
  have h := h0
  obtain ⟨c0, r0, e0, w0, h⟩ := wfl_cons h
  obtain ⟨n0, rfl⟩ := dec_s w0
  obtain ⟨c1, r1, e1, w1, h⟩ := wfl_cons h
  obtain ⟨n1, rfl⟩ := decC (enc := TArg.enc) ty_Arg (fun l _ y hy hw => dec_Arg hw) w1
  have hn := wfl_nil h
  refine ⟨⟨n0, n1⟩, ?_⟩
  rw [TDir.enc_eq]
  subst hn
  simp only [e0, e1]
theorem ty_InDef : cfg.ty 124 = some ⟨.struct, [.s, .s, .s, .s, .b, .i .i64, .s, .sl 122, .sl 9, .sl 133], 168, [(0, 1, false), (1, 1, false), (2, 2, true), (4, 1, false), (5, 4, true), (9, 1, false)], false⟩ := by kernel_rfl
theorem dec_InDef {x : List DC} (h0 : WfL cfg.ty [.s, .s, .s, .s, .b, .i .i64, .s, .sl 122, .sl 9, .sl 133] x) : ∃ v : TInDef, x = TInDef.enc v := by
  have h := h0
  obtain ⟨c0, r0, e0, w0, h⟩ := wfl_cons h
  obtain ⟨n0, rfl⟩ := dec_s w0
  obtain ⟨c1, r1, e1, w1, h⟩ := wfl_cons h
  obtain ⟨n1, rfl⟩ := dec_s w1
  obtain ⟨c2, r2, e2, w2, h⟩ := wfl_cons h
  obtain ⟨n2, rfl⟩ := dec_s w2
  obtain ⟨c3, r3, e3, w3, h⟩ := wfl_cons h
  obtain ⟨n3, rfl⟩ := dec_s w3
  obtain ⟨c4, r4, e4, w4, h⟩ := wfl_cons h
  obtain ⟨n4, rfl⟩ := dec_b w4
  obtain ⟨c5, r5, e5, w5, h⟩ := wfl_cons h
  obtain ⟨n5, rfl, _, _⟩ := dec_i w5
  obtain ⟨c6, r6, e6, w6, h⟩ := wfl_cons h
  obtain ⟨n6, rfl⟩ := dec_s w6
  obtain ⟨c7, r7, e7, w7, h⟩ := wfl_cons h
  obtain ⟨n7, rfl⟩ := decC (enc := TValue.enc) ty_Value (fun l _ y hy hw => dec_Value hw) w7
  obtain ⟨c8, r8, e8, w8, h⟩ := wfl_cons h
  obtain ⟨n8, rfl⟩ := decC (enc := S1) tyS (fun l _ y hy hw => dec_S1 hw) w8
  obtain ⟨c9, r9, e9, w9, h⟩ := wfl_cons h
  obtain ⟨n9, rfl⟩ := decC (enc := TDir.enc) ty_Dir (fun l _ y hy hw => dec_Dir hw) w9
  have hn := wfl_nil h
  refine ⟨⟨n0, n1, ⟨n2, n3⟩, n4, ⟨n5, n6, n7, n8⟩, n9⟩, ?_⟩
  rw [TInDef.enc_eq]
  subst hn
  simp only [e0, e1, e2, e3, e4, e5, e6, e7, e8, e9]
theorem ty_FieldDef : cfg.ty 118 = some ⟨.struct, [.s, .s, .sl 124, .s, .s, .sl 133], 112, [(0, 1, false), (1, 1, false), (2, 1, false), (3, 2, true), (5, 1, false)], false⟩ := by kernel_rfl
theorem dec_FieldDef {x : List DC} (h0 : WfL cfg.ty [.s, .s, .sl 124, .s, .s, .sl 133] x) : ∃ v : TFieldDef, x = TFieldDef.enc v := by
  have h := h0
  obtain ⟨c0, r0, e0, w0, h⟩ := wfl_cons h
  obtain ⟨n0, rfl⟩ := dec_s w0
  obtain ⟨c1, r1, e1, w1, h⟩ := wfl_cons h
  obtain ⟨n1, rfl⟩ := dec_s w1
  obtain ⟨c2, r2, e2, w2, h⟩ := wfl_cons h
  obtain ⟨n2, rfl⟩ := decC (enc := TInDef.enc) ty_InDef (fun l _ y hy hw => dec_InDef hw) w2
  obtain ⟨c3, r3, e3, w3, h⟩ := wfl_cons h
  obtain ⟨n3, rfl⟩ := dec_s w3
  obtain ⟨c4, r4, e4, w4, h⟩ := wfl_cons h
  obtain ⟨n4, rfl⟩ := dec_s w4
  obtain ⟨c5, r5, e5, w5, h⟩ := wfl_cons h
  obtain ⟨n5, rfl⟩ := decC (enc := TDir.enc) ty_Dir (fun l _ y hy hw => dec_Dir hw) w5
  have hn := wfl_nil h
  refine ⟨⟨n0, n1, n2, ⟨n3, n4⟩, n5⟩, ?_⟩
  rw [TFieldDef.enc_eq]
  subst hn
  simp only [e0, e1, e2, e3, e4, e5]
theorem ty_EnumDef : cfg.ty 127 = some ⟨.struct, [.s, .s, .sl 133], 56, [(0, 1, false), (1, 1, false), (2, 1, false)], false⟩ := by kernel_rfl
theorem dec_EnumDef {x : List DC} (h0 : WfL cfg.ty [.s, .s, .sl 133] x) : ∃ v : TEnumDef, x = TEnumDef.enc v := by
  have h := h0
  obtain ⟨c0, r0, e0, w0, h⟩ := wfl_cons h
  obtain ⟨n0, rfl⟩ := dec_s w0
  obtain ⟨c1, r1, e1, w1, h⟩ := wfl_cons h
  obtain ⟨n1, rfl⟩ := dec_s w1
  obtain ⟨c2, r2, e2, w2, h⟩ := wfl_cons h
  obtain ⟨n2, rfl⟩ := decC (enc := TDir.enc) ty_Dir (fun l _ y hy hw => dec_Dir hw) w2
  have hn := wfl_nil h
  refine ⟨⟨n0, n1, n2⟩, ?_⟩
  rw [TEnumDef.enc_eq]
  subst hn
  simp only [e0, e1, e2]
theorem ty_Root : cfg.ty 129 = some ⟨.struct, [.i .i64, .s], 24, [(0, 1, false), (1, 1, false)], false⟩ := by kernel_rfl
theorem dec_Root {x : List DC} (h0 : WfL cfg.ty [.i .i64, .s] x) : ∃ v : TRoot, x = TRoot.enc v := by
  have h := h0
  obtain ⟨c0, r0, e0, w0, h⟩ := wfl_cons h
  obtain ⟨n0, rfl, _, _⟩ := dec_i w0
  obtain ⟨c1, r1, e1, w1, h⟩ := wfl_cons h
  obtain ⟨n1, rfl⟩ := dec_s w1
  have hn := wfl_nil h
  refine ⟨⟨n0, n1⟩, ?_⟩
  rw [TRoot.enc_eq]
  subst hn
  simp only [e0, e1]
theorem ty_Def : cfg.ty 44 = some ⟨.struct, [.i .i64, .b, .s, .s, .sl 9, .sl 118, .sl 124, .sl 127, .sl 129, .b, .sl 133], 200, [(0, 1, false), (1, 1, false), (2, 1, false), (3, 1, false), (4, 1, false), (5, 1, false), (6, 1, false), (7, 1, false), (8, 1, false), (9, 1, false), (10, 1, false)], false⟩ := by kernel_rfl
theorem dec_Def {x : List DC} (h0 : WfL cfg.ty [.i .i64, .b, .s, .s, .sl 9, .sl 118, .sl 124, .sl 127, .sl 129, .b, .sl 133] x) : ∃ v : TDef, x = TDef.enc v := by
  have h := h0
  obtain ⟨c0, r0, e0, w0, h⟩ := wfl_cons h
  obtain ⟨n0, rfl, _, _⟩ := dec_i w0
  obtain ⟨c1, r1, e1, w1, h⟩ := wfl_cons h
  obtain ⟨n1, rfl⟩ := dec_b w1
  obtain ⟨c2, r2, e2, w2, h⟩ := wfl_cons h
  obtain ⟨n2, rfl⟩ := dec_s w2
  obtain ⟨c3, r3, e3, w3, h⟩ := wfl_cons h
  obtain ⟨n3, rfl⟩ := dec_s w3
  obtain ⟨c4, r4, e4, w4, h⟩ := wfl_cons h
  obtain ⟨n4, rfl⟩ := decC (enc := S1) tyS (fun l _ y hy hw => dec_S1 hw) w4
  obtain ⟨c5, r5, e5, w5, h⟩ := wfl_cons h
  obtain ⟨n5, rfl⟩ := decC (enc := TFieldDef.enc) ty_FieldDef (fun l _ y hy hw => dec_FieldDef hw) w5
  obtain ⟨c6, r6, e6, w6, h⟩ := wfl_cons h
  obtain ⟨n6, rfl⟩ := decC (enc := TInDef.enc) ty_InDef (fun l _ y hy hw => dec_InDef hw) w6
  obtain ⟨c7, r7, e7, w7, h⟩ := wfl_cons h
  obtain ⟨n7, rfl⟩ := decC (enc := TEnumDef.enc) ty_EnumDef (fun l _ y hy hw => dec_EnumDef hw) w7
  obtain ⟨c8, r8, e8, w8, h⟩ := wfl_cons h
  obtain ⟨n8, rfl⟩ := decC (enc := TRoot.enc) ty_Root (fun l _ y hy hw => dec_Root hw) w8
  obtain ⟨c9, r9, e9, w9, h⟩ := wfl_cons h
  obtain ⟨n9, rfl⟩ := dec_b w9
  obtain ⟨c10, r10, e10, w10, h⟩ := wfl_cons h
  obtain ⟨n10, rfl⟩ := decC (enc := TDir.enc) ty_Dir (fun l _ y hy hw => dec_Dir hw) w10
  have hn := wfl_nil h
  refine ⟨⟨n0, n1, n2, n3, n4, n5, n6, n7, n8, n9, n10⟩, ?_⟩
  rw [TDef.enc_eq]
  subst hn
  simp only [e0, e1, e2, e3, e4, e5, e6, e7, e8, e9, e10]
theorem decS_Def {c : DC} (h : WfC cfg.ty (.sl 44) c) : ∃ vs : List TDef, c = .sl (vs.map TDef.enc) := decC ty_Def (fun l _ y hy hw => dec_Def hw) h
theorem wfl_app {ty : Nat → Option TI} : ∀ {ts1 ts2 : List CT} {x : List DC}, WfL ty (ts1 ++ ts2) x → ∃ y z, x = y ++ z ∧ WfL ty ts1 y ∧ WfL ty ts2 z
  | [], ts2, x, h => ⟨[], x, rfl, .nil, h⟩
  | t :: ts1, ts2, x, h => by
    obtain ⟨c, xs, rfl, h1, h2⟩ := wfl_cons h
    obtain ⟨y, z, rfl, h3, h4⟩ := wfl_app h2
    exact ⟨c :: y, z, rfl, .cons _ _ _ _ h1 h3, h4⟩
theorem law_FnExactSortDefs (d : List DC) (hd : WfL cfg.ty [.sl 44] d) : r_laws_FnExactSortDefs d = .ret [.b true] := by
  obtain ⟨y0, z0, e0, w0, hd⟩ := wfl_app (ts1 := [.sl 44]) (ts2 := []) hd
  have hz := wfl_nil hd
  obtain ⟨c0, q0, f0, v0, u0⟩ := wfl_cons w0
  have x0 := wfl_nil u0
  have k0 := wfc_ok v0
  obtain ⟨a0, g0⟩ := decS_Def v0
  subst g0 x0 f0
  subst hz
  subst e0
  rw [eq_laws_FnExactSortDefs]
  simp only [E_laws_FnExactSortDefs, List.cons_append, List.nil_append, List.append_nil, List.getD_cons_zero, List.getD_cons_succ, DC.bb_b, DC.ii_i, DC.ss_s, DC.ll_sl]
  rw [szS_Def a0 k0 (1048576) (by omega) (by omega)]
  simp only [Out.bindR_ret, List.getD_cons_zero, List.getD_cons_succ, DC.bb_b, DC.ii_i, DC.ss_s, DC.ll_sl]
  by_cases s0 : (1048576 : Int) < ((DC.wt (.sl (a0.map TDef.enc)) : Nat) : Int)
  · rw [szR_lt s0]
    rfl
  rw [szR_ge s0]
  have s0' : ¬ (1048576 : Int) - ((DC.wt (.sl (a0.map TDef.enc)) : Nat) : Int) < 0 := by omega
  simp only [s0', decide_false, Bool.false_eq_true, if_false]
  have W0 : DC.wt (.sl (a0.map TDef.enc)) ≤ 1048576 := by omega
  have l0 : a0.length ≤ 1048576 := by rw [DC.wt, List.length_map] at W0; omega
  have hs := spec_SortDefs a0.length a0 (Nat.le_refl _) W0
  have hi := impl_SortDefs a0 W0
  have hrw : DC.wt (.sl ((srtT a0).map TDef.enc)) ≤ 1048576 := by rw [srtT_wt]; exact W0
  obtain ⟨x0, k0, M0, p0, q0, _⟩ := mhS_Def a0 1 (by omega) (by omega)
  obtain ⟨z0, k1, M1, p1, q1, H1⟩ := mhS_Def (srtT a0) 1 (by omega) (by omega)
  have n0 : ¬ k0 < 0 := by omega
  have n1 : ¬ k1 < 0 := by omega
  simp only [toS_Def a0 W0, eqS_Def a0 W0, hs, hi, List.append_nil, List.getD_cons_zero, List.getD_cons_succ, DC.bb_b, DC.ii_i, DC.ss_s, DC.ll_sl, Out.bindR_ret, bne_self_eq_false, beq_self_eq_true, Bool.not_true, Bool.false_eq_true, if_false, eqS_Def (srtT a0) hrw, M0.at, M1.at, markM, List.length_cons, List.length_nil, if_true, n0, n1, decide_false, H1, Out.andThen]
end Go.Proofs.QV
