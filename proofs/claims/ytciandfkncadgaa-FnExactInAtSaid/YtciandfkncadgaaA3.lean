/- The place of an input's name: what both implementations answer. -/
import Derived.Test.YtciandfkncadgaaA1
namespace Go.Proofs.YtciandfkncadgaaV
open Go
set_option linter.unusedVariables false
set_option linter.unusedSimpArgs false
set_option maxRecDepth 100000

theorem spec_InAt (l : List TInDef) (n : List UInt8) (hl : l.length ≤ 1048576) : r_spec_InAt [.sl (l.map TInDef.enc), .s n] = .ret [.i (placeOf (fun d => d.name == n) l)] := by
  rw [eq_spec_InAt]
  simp only [E_spec_InAt, List.getD_cons_zero, List.getD_cons_succ, DC.bb_b, DC.ii_i, DC.ss_s, DC.ll_sl]
  rw [show (0 : Int) = ((0 : Nat) : Int) from rfl, Loop_find0 (l := l) (st := fun i => [.sl (l.map TInDef.enc), .s n, .i (i : Int)]) (p := fun d => d.name == n) (stop := fun i _ => .ret [.i (i : Int)]) (fin := .ex 0 []) (fun i hi => ?step) (fun _ _ => Out.esc_ret _) ?fin (Out.esc_ex _ _), goF_place (g := fun i => [.i i]), placeOf]
  · cases l.findIdx? fun d => d.name == n <;> simp
  case step =>
    simp only [E_spec_InAtL1, List.getD_cons_zero, List.getD_cons_succ, DC.bb_b, DC.ii_i, DC.ss_s, DC.ll_sl, Int.toNat_natCast, List.length_map, map_getD hi, TInDef.enc_eq]
    by_cases hp : l[i].name = n <;> simp [hi, hp, wrap_succ hi (show l.length ≤ 9223372036854775807 by omega)]
  case fin => simp [E_spec_InAtL1]

theorem index_InAt (l : List TInDef) (n : List UInt8) (hl : l.length ≤ 1048576) : r_slices_IndexFunc_impl_InDef__impl_InAt_1 [.sl (l.map TInDef.enc), .s n] = .ret [.i (placeOf (fun d => d.name == n) l), .s n] := by
  rw [eq_slices_IndexFunc_impl_InDef__impl_InAt_1]
  simp only [E_slices_IndexFunc_impl_InDef__impl_InAt_1, List.getD_cons_zero, List.getD_cons_succ, DC.bb_b, DC.ii_i, DC.ss_s, DC.ll_sl, List.length_map]
  rw [show (0 : Int) = ((0 : Nat) : Int) from rfl, Loop_find0 (l := l) (st := fun i => [.sl (l.map TInDef.enc), .i (l.length : Int), .i (i : Int), .s n]) (p := fun d => d.name == n) (stop := fun i _ => .ret [.i (i : Int), .s n]) (fin := .ex 0 [.s n]) (fun i hi => ?step) (fun _ _ => Out.esc_ret _) ?fin (Out.esc_ex _ _), goF_place (g := fun i => [.i i, .s n]), placeOf]
  · cases l.findIdx? fun d => d.name == n <;> simp
  case step =>
    simp only [E_slices_IndexFunc_impl_InDef__impl_InAt_1L1, List.getD_cons_zero, List.getD_cons_succ, DC.bb_b, DC.ii_i, DC.ss_s, DC.ll_sl, Int.toNat_natCast, List.length_map, map_getD hi, TInDef.enc_eq, eq_impl_InAt_1, E_impl_InAt_1, Out.bindR_ret]
    by_cases hp : l[i].name = n <;> simp [hi, hp, wrap_succ hi (show l.length ≤ 9223372036854775807 by omega)]
  case fin => simp [E_slices_IndexFunc_impl_InDef__impl_InAt_1L1]

theorem impl_InAt (l : List TInDef) (n : List UInt8) (hl : l.length ≤ 1048576) : r_impl_InAt [.sl (l.map TInDef.enc), .s n] = .ret [.i (placeOf (fun d => d.name == n) l)] := by
  rw [eq_impl_InAt]
  simp only [E_impl_InAt, List.getD_cons_zero, List.getD_cons_succ, DC.bb_b, DC.ii_i, DC.ss_s, DC.ll_sl, index_InAt l n hl, Out.bindR_ret]

end Go.Proofs.YtciandfkncadgaaV
