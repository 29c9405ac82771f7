/- Lookups in a schema: what both implementations answer. -/
import Derived.Test.YtciandfkncadgaaF
namespace Go.Proofs.YtciandfkncadgaaV
open Go
set_option linter.unusedVariables false
set_option linter.unusedSimpArgs false
set_option maxRecDepth 100000

theorem goF_find {α : Type} {p : α → Bool} {g : α → Out} {fin : Out} : ∀ (l : List α) (i : Nat), goF p (fun _ x => g x) fin i l = match l.find? p with | some x => g x | none => fin
  | [], i => rfl
  | x :: l, i => by
    rw [goF, goF_find l (i + 1), List.find?_cons]
    cases p x <;> simp

/-- The first place of what is so, or -1. -/
def placeOf {α : Type} (p : α → Bool) (l : List α) : Int := match l.findIdx? p with | some i => (i : Int) | none => -1

def rootOf (l : List TRoot) (k : Int) : List UInt8 := match l.find? (fun r => r.kind == k) with | some r => r.type' | none => []

theorem spec_RootOf (t d : List (List DC)) (l : List TRoot) (k : Int) (hl : l.length ≤ 1048576) : r_spec_RootOf [.sl t, .sl d, .sl (l.map TRoot.enc), .i k] = .ret [.s (rootOf l k)] := by
  rw [eq_spec_RootOf]
  simp only [E_spec_RootOf, List.getD_cons_zero, List.getD_cons_succ, DC.bb_b, DC.ii_i, DC.ss_s, DC.ll_sl]
  rw [show (0 : Int) = ((0 : Nat) : Int) from rfl, Loop_find0 (l := l) (st := fun i => [.i k, .i (i : Int), .sl t, .sl d, .sl (l.map TRoot.enc)]) (p := fun r => r.kind == k) (stop := fun _ r => .ret [.s r.type']) (fin := .ex 0 []) (fun i hi => ?step) (fun _ _ => Out.esc_ret _) ?fin (Out.esc_ex _ _), goF_find, rootOf]
  · cases l.find? fun r => r.kind == k <;> rfl
  case step =>
    simp only [E_spec_RootOfL1, List.getD_cons_zero, List.getD_cons_succ, DC.bb_b, DC.ii_i, DC.ss_s, DC.ll_sl, Int.toNat_natCast, List.length_map, map_getD hi, TRoot.enc_eq]
    by_cases hp : l[i].kind = k <;> simp [hi, hp, wrap_succ hi (show l.length ≤ 9223372036854775807 by omega)]
  case fin => simp [E_spec_RootOfL1]

theorem impl_RootOf (t d : List (List DC)) (l : List TRoot) (k : Int) (hl : l.length ≤ 1048576) : r_impl_RootOf [.sl t, .sl d, .sl (l.map TRoot.enc), .i k] = .ret [.s (rootOf l k)] := by
  rw [eq_impl_RootOf]
  simp only [E_impl_RootOf, List.getD_cons_zero, List.getD_cons_succ, DC.bb_b, DC.ii_i, DC.ss_s, DC.ll_sl, List.length_map]
  rw [show (0 : Int) = ((0 : Nat) : Int) from rfl, Loop_find0 (l := l) (st := fun i => [.i k, .sl (l.map TRoot.enc), .i (l.length : Int), .i (i : Int)]) (p := fun r => r.kind == k) (stop := fun _ r => .ret [.s r.type']) (fin := .ex 0 []) (fun i hi => ?step) (fun _ _ => Out.esc_ret _) ?fin (Out.esc_ex _ _), goF_find, rootOf]
  · cases l.find? fun r => r.kind == k <;> rfl
  case step =>
    simp only [E_impl_RootOfL1, List.getD_cons_zero, List.getD_cons_succ, DC.bb_b, DC.ii_i, DC.ss_s, DC.ll_sl, Int.toNat_natCast, List.length_map, map_getD hi, TRoot.enc_eq]
    by_cases hp : l[i].kind = k <;> simp [hi, hp, wrap_succ hi (show l.length ≤ 9223372036854775807 by omega)]
  case fin => simp [E_impl_RootOfL1]

theorem goF_place {α : Type} {p : α → Bool} {g : Int → List DC} {fin : Out} : ∀ (l : List α) (i : Nat), goF p (fun i _ => .ret (g (i : Int))) fin i l = match l.findIdx? p with | some j => .ret (g ((i + j : Nat) : Int)) | none => fin
  | [], i => rfl
  | x :: l, i => by
    rw [goF, goF_place l (i + 1), List.findIdx?_cons]
    cases p x with
    | true => simp
    | false =>
      simp only [Bool.false_eq_true, if_false]
      cases l.findIdx? p with
      | none => rfl
      | some j => simp only [Option.map_some]; congr 3; omega

/-- Where a type stands; of more than 60 none counts. -/
def typeAt (l : List TDef) (n : List UInt8) : Int := if 60 < l.length then -1 else placeOf (fun d => d.name == n) l

theorem spec_TypeAt (l : List TDef) (d r : List (List DC)) (n : List UInt8) (hl : l.length ≤ 1048576) : r_spec_TypeAt [.sl (l.map TDef.enc), .sl d, .sl r, .s n] = .ret [.i (typeAt l n)] := by
  rw [eq_spec_TypeAt]
  simp only [E_spec_TypeAt, List.getD_cons_zero, List.getD_cons_succ, DC.bb_b, DC.ii_i, DC.ss_s, DC.ll_sl]
  rw [typeAt]
  by_cases h60 : 60 < l.length
  · rw [Loop_ex (r := []) (id := 0) (by
      have h0 : (0 : Int) < (l.length : Int) := by omega
      have h1 : ¬ (l.length : Int) ≤ 60 := by omega
      simp [E_spec_TypeAtL1, h0, h1])]
    simp [h60]
  · rw [if_neg h60, show (0 : Int) = ((0 : Nat) : Int) from rfl, Loop_find0 (l := l) (st := fun i => [.s n, .i (i : Int), .sl (l.map TDef.enc), .sl d, .sl r]) (p := fun d => d.name == n) (stop := fun i _ => .ret [.i (i : Int)]) (fin := .ex 0 []) (fun i hi => ?step) (fun _ _ => Out.esc_ret _) ?fin (Out.esc_ex _ _), goF_place (g := fun i => [.i i]), placeOf]
    · cases l.findIdx? fun d => d.name == n <;> simp
    case step =>
      have h1 : (l.length : Int) ≤ 60 := by omega
      simp only [E_spec_TypeAtL1, List.getD_cons_zero, List.getD_cons_succ, DC.bb_b, DC.ii_i, DC.ss_s, DC.ll_sl, Int.toNat_natCast, List.length_map, map_getD hi, TDef.enc_eq]
      by_cases hp : l[i].name = n <;> simp [hi, hp, h1, wrap_succ hi (show l.length ≤ 9223372036854775807 by omega), map_getD hi, TDef.enc_eq]
    case fin => simp [E_spec_TypeAtL1]

theorem index_named (l : List TDef) (n : List UInt8) (hl : l.length ≤ 1048576) : r_slices_IndexFunc_impl_Def__impl_named_1 [.sl (l.map TDef.enc), .s n] = .ret [.i (placeOf (fun d => d.name == n) l), .s n] := by
  rw [eq_slices_IndexFunc_impl_Def__impl_named_1]
  simp only [E_slices_IndexFunc_impl_Def__impl_named_1, List.getD_cons_zero, List.getD_cons_succ, DC.bb_b, DC.ii_i, DC.ss_s, DC.ll_sl, List.length_map]
  rw [show (0 : Int) = ((0 : Nat) : Int) from rfl, Loop_find0 (l := l) (st := fun i => [.sl (l.map TDef.enc), .i (l.length : Int), .i (i : Int), .s n]) (p := fun d => d.name == n) (stop := fun i _ => .ret [.i (i : Int), .s n]) (fin := .ex 0 [.s n]) (fun i hi => ?step) (fun _ _ => Out.esc_ret _) ?fin (Out.esc_ex _ _), goF_place (g := fun i => [.i i, .s n]), placeOf]
  · cases l.findIdx? fun d => d.name == n <;> simp
  case step =>
    simp only [E_slices_IndexFunc_impl_Def__impl_named_1L1, List.getD_cons_zero, List.getD_cons_succ, DC.bb_b, DC.ii_i, DC.ss_s, DC.ll_sl, Int.toNat_natCast, List.length_map, map_getD hi, TDef.enc_eq, eq_impl_named_1, E_impl_named_1, Out.bindR_ret]
    by_cases hp : l[i].name = n <;> simp [hi, hp, wrap_succ hi (show l.length ≤ 9223372036854775807 by omega)]
  case fin => simp [E_slices_IndexFunc_impl_Def__impl_named_1L1]

theorem impl_named (l : List TDef) (n : List UInt8) (hl : l.length ≤ 1048576) : r_impl_named [.sl (l.map TDef.enc), .s n] = .ret [.i (typeAt l n)] := by
  rw [eq_impl_named]
  simp only [E_impl_named, List.getD_cons_zero, List.getD_cons_succ, DC.bb_b, DC.ii_i, DC.ss_s, DC.ll_sl, List.length_map, typeAt]
  by_cases h60 : 60 < l.length
  · have h1 : (l.length : Int) > 60 := by omega
    simp [h60, h1]
  · have h1 : ¬ (l.length : Int) > 60 := by omega
    simp only [h60, h1, decide_false, Bool.false_eq_true, if_false, index_named l n hl, Out.bindR_ret, List.getD_cons_zero, DC.ii_i]

theorem impl_TypeAt (l : List TDef) (d r : List (List DC)) (n : List UInt8) (hl : l.length ≤ 1048576) : r_impl_TypeAt [.sl (l.map TDef.enc), .sl d, .sl r, .s n] = .ret [.i (typeAt l n)] := by
  rw [eq_impl_TypeAt]
  simp only [E_impl_TypeAt, List.getD_cons_zero, List.getD_cons_succ, DC.bb_b, DC.ii_i, DC.ss_s, DC.ll_sl, impl_named l n hl, Out.bindR_ret]

end Go.Proofs.YtciandfkncadgaaV
