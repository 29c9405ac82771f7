/- One type below another: what both implementations answer. -/
import Derived.Test.YtciandfkncadgaaA2
namespace Go.Proofs.YtciandfkncadgaaV
open Go
set_option linter.unusedVariables false
set_option linter.unusedSimpArgs false
set_option maxRecDepth 100000

theorem spec_l18Has (l : List (List UInt8)) (n : List UInt8) (hl : l.length ≤ 1048576) : r_spec_l18Has [.sl (l.map S1), .s n] = .ret [.b (l.any (· == n))] := by
  rw [eq_spec_l18Has]
  simp only [E_spec_l18Has, List.getD_cons_zero, List.getD_cons_succ, DC.bb_b, DC.ii_i, DC.ss_s, DC.ll_sl]
  rw [show (0 : Int) = ((0 : Nat) : Int) from rfl, Loop_find0 (l := l) (st := fun i => [.sl (l.map S1), .s n, .i (i : Int)]) (p := fun d => d == n) (stop := fun i _ => .ret [.b true]) (fin := .ex 0 []) (fun i hi => ?step) (fun _ _ => Out.esc_ret _) ?fin (Out.esc_ex _ _), goF_any]
  · cases l.any fun d => d == n <;> simp
  case step =>
    simp only [E_spec_l18HasL1, List.getD_cons_zero, List.getD_cons_succ, DC.bb_b, DC.ii_i, DC.ss_s, DC.ll_sl, Int.toNat_natCast, List.length_map, map_getD hi, S1]
    by_cases hp : l[i] = n <;> simp [hi, hp, wrap_succ hi (show l.length ≤ 9223372036854775807 by omega)]
  case fin => simp [E_spec_l18HasL1]

theorem slices_Index_string (l : List (List UInt8)) (n : List UInt8) (hl : l.length ≤ 1048576) : r_slices_Index_string [.sl (l.map S1), .s n] = .ret [.i (placeOf (· == n) l)] := by
  rw [eq_slices_Index_string]
  simp only [E_slices_Index_string, List.getD_cons_zero, List.getD_cons_succ, DC.bb_b, DC.ii_i, DC.ss_s, DC.ll_sl, List.length_map]
  rw [show (0 : Int) = ((0 : Nat) : Int) from rfl, Loop_find0 (l := l) (st := fun i => [.sl (l.map S1), .s n, .i (l.length : Int), .i (i : Int)]) (p := fun d => d == n) (stop := fun i _ => .ret [.i (i : Int)]) (fin := .ex 0 []) (fun i hi => ?step) (fun _ _ => Out.esc_ret _) ?fin (Out.esc_ex _ _), goF_place (g := fun i => [.i i]), placeOf]
  · cases l.findIdx? fun d => d == n <;> simp
  case step =>
    simp only [E_slices_Index_stringL1, List.getD_cons_zero, List.getD_cons_succ, DC.bb_b, DC.ii_i, DC.ss_s, DC.ll_sl, Int.toNat_natCast, List.length_map, map_getD hi, S1]
    by_cases hp : n = l[i]
    · simp [hi, ← hp, wrap_succ hi (show l.length ≤ 9223372036854775807 by omega)]
    · have hp2 : ¬ l[i] = n := fun h => hp h.symm
      simp [hi, hp, hp2, wrap_succ hi (show l.length ≤ 9223372036854775807 by omega)]
  case fin => simp [E_slices_Index_stringL1]

theorem placeOf_nonneg {α : Type} (p : α → Bool) (l : List α) : decide (placeOf p l ≥ 0) = l.any p := by
  rcases place_find p l with ⟨h1, h2⟩ | ⟨i, h, h1, h2, h3⟩
  · rw [h1, List.any_eq_false.2 (fun x hx => by simpa using List.find?_eq_none.1 h2 x hx)]
    rfl
  · rw [h1, List.any_eq_true.2 ⟨l[i], List.getElem_mem h, h3⟩]
    simp

theorem slices_Contains_string (l : List (List UInt8)) (n : List UInt8) (hl : l.length ≤ 1048576) : r_slices_Contains_string [.sl (l.map S1), .s n] = .ret [.b (l.any (· == n))] := by
  rw [eq_slices_Contains_string]
  simp only [E_slices_Contains_string, List.getD_cons_zero, List.getD_cons_succ, DC.bb_b, DC.ii_i, DC.ss_s, DC.ll_sl, slices_Index_string l n hl, Out.bindR_ret]
  rw [placeOf_nonneg]

theorem def_wt {l : List TDef} (hw : DC.wt (.sl (l.map TDef.enc)) ≤ 1048576) {d : TDef} (hd : d ∈ l) : wtL d.enc ≤ 1048576 := by
  rw [DC.wt] at hw
  have := wtV_mem (List.mem_map_of_mem (f := TDef.enc) hd)
  omega
theorem defs_len {l : List TDef} (hw : DC.wt (.sl (l.map TDef.enc)) ≤ 1048576) : l.length ≤ 1048576 := by
  rw [DC.wt, List.length_map] at hw
  omega
theorem faces_len {d : TDef} (h : wtL d.enc ≤ 1048576) : d.faces.length ≤ 1048576 := by
  simp only [TDef.enc_eq, wtL, DC.wt, List.length_map] at h
  omega
theorem defOf_mem {l : List TDef} {n : List UInt8} {d : TDef} (h : defOf l n = some d) : d ∈ l := by
  unfold defOf at h
  split at h
  · simp at h
  · exact List.mem_of_find?_eq_some h

/-- The names of a type and of another: may the one stand where the other is? -/
def below (l : List TDef) (a b : List UInt8) : Bool :=
  a == b || match defOf l a, defOf l b with
    | some x, some y => (y.kind == 3 && (x.kind == 2 || x.kind == 3) && x.faces.any (· == b)) || (y.kind == 4 && x.kind == 2 && y.faces.any (· == a))
    | _, _ => false

theorem spec_l18Below (l : List TDef) (d r : List (List DC)) (a b : List UInt8) (hw : DC.wt (.sl (l.map TDef.enc)) ≤ 1048576) : r_spec_l18Below [.sl (l.map TDef.enc), .sl d, .sl r, .s a, .s b] = .ret [.b (below l a b)] := by
  rw [eq_spec_l18Below]
  simp only [E_spec_l18Below, List.getD_cons_zero, List.getD_cons_succ, DC.bb_b, DC.ii_i, DC.ss_s, DC.ll_sl, spec_TypeAt l d r _ (defs_len hw), Out.bindR_ret, below]
  by_cases hab : a = b
  · simp [hab]
  · have hab' : (a == b) = false := by simpa using hab
    rcases typeAt_cases l a with ⟨h1, h2⟩ | ⟨i, h, h1, h2, _⟩
    · simp [h1, h2, hab, hab']
    · rcases typeAt_cases l b with ⟨k1, k2⟩ | ⟨j, k, k1, k2, _⟩
      · simp [h1, h2, k1, k2, hab, hab']
      · have f1 := faces_len (def_wt hw (List.getElem_mem h))
        have f2 := faces_len (def_wt hw (List.getElem_mem k))
        have hi : ¬ (i : Int) < 0 := by omega
        have hj : ¬ (j : Int) < 0 := by omega
        simp only [h1, h2, k1, k2, hi, hj, decide_false, Bool.false_eq_true, if_false, Out.andThen_norm, List.getD_cons_zero, List.getD_cons_succ, DC.bb_b, DC.ii_i, DC.ss_s, DC.ll_sl, Int.toNat_natCast, map_getD h, map_getD k, TDef.enc_eq, List.length_map]
        have e := spec_l18Has l[i].faces b f1
        have e2 := spec_l18Has l[j].faces a f2
        by_cases y3 : l[j].kind = 3
        · by_cases x2 : l[i].kind = 2
          · simp [hab, hab', h, k, y3, x2, e, e2]
          · by_cases x3 : l[i].kind = 3 <;> simp [hab, hab', h, k, y3, x2, x3, e, e2]
        · by_cases y4 : l[j].kind = 4 <;> by_cases x2 : l[i].kind = 2 <;> simp [hab, hab', h, k, y3, y4, x2, e, e2]

theorem impl_subName (l : List TDef) (d r : List (List DC)) (a b : List UInt8) (hw : DC.wt (.sl (l.map TDef.enc)) ≤ 1048576) : r_impl_subName [.sl (l.map TDef.enc), .sl d, .sl r, .s a, .s b] = .ret [.b (below l a b)] := by
  rw [eq_impl_subName]
  simp only [E_impl_subName, List.getD_cons_zero, List.getD_cons_succ, DC.bb_b, DC.ii_i, DC.ss_s, DC.ll_sl, impl_typeDef l d r _ (defs_len hw), Out.bindR_ret, below]
  by_cases hab : a = b
  · simp [hab]
  · have hab' : (a == b) = false := by simpa using hab
    cases hx : defOf l a with
    | none =>
      cases hy : defOf l b with
      | none => simp [hab, hab', TDef.enc_eq, zDef]
      | some y => by_cases y3 : y.kind = 3 <;> by_cases y4 : y.kind = 4 <;> simp [hab, hab', TDef.enc_eq, zDef, y3, y4]
    | some x =>
      cases hy : defOf l b with
      | none => simp [hab, hab', TDef.enc_eq, zDef]
      | some y =>
        have e := slices_Contains_string x.faces b (faces_len (def_wt hw (defOf_mem hx)))
        have e2 := slices_Contains_string y.faces a (faces_len (def_wt hw (defOf_mem hy)))
        simp only [Option.getD_some, TDef.enc_eq, List.cons_append, List.nil_append, List.getD_cons_zero, List.getD_cons_succ, DC.bb_b, DC.ii_i, DC.ss_s, DC.ll_sl, e, e2, Out.bindR_ret]
        by_cases y3 : y.kind = 3
        · by_cases x2 : x.kind = 2
          · simp [hab, hab', y3, x2]
          · by_cases x3 : x.kind = 3 <;> simp [hab, hab', y3, x2, x3]
        · by_cases y4 : y.kind = 4 <;> by_cases x2 : x.kind = 2 <;> simp [hab, hab', y3, y4, x2]

/-- The same of types, their wraps told from the last on. -/
def subW (f : Bool) : List UInt8 → List UInt8 → Bool
  | x :: xs, y :: ys => if y == 33 then x == 33 && subW f xs ys else if x == 33 then subW f xs (y :: ys) else if x == 93 && y == 93 then subW f xs ys else false
  | [], y :: ys => false
  | x :: xs, [] => if x == 33 then subW f xs [] else false
  | [], [] => f
termination_by a b => a.length + b.length

theorem u8i (x : UInt8) (c : UInt8) : ((x.toNat : Int) == (c.toNat : Int)) = (x == c) := by
  rw [Bool.eq_iff_iff]
  simp only [beq_iff_eq]
  constructor
  · intro h
    exact UInt8.toNat_inj.1 (by omega)
  · intro h; rw [h]
theorem snoc_get (xs : List UInt8) (x : UInt8) : (xs ++ [x]).getD xs.length 0 = x := by simp [List.getD_eq_getElem?_getD]
theorem snoc_take (xs : List UInt8) (x : UInt8) : (xs ++ [x]).take xs.length = xs := by simp
theorem snoc_drop (xs : List UInt8) (x : UInt8) : (xs ++ [x]).drop xs.length = [x] := by simp
theorem wrap_pred {n : Nat} (h : n ≤ 1048576) : IntKind.i64.wrap (((n + 1 : Nat) : Int) - 1) = (n : Int) := by
  rw [wrap64 (by omega) (by omega)]; omega

theorem spec_SubTypeL (l : List TDef) (d r : List (List DC)) (a b : List UInt8) (hw : DC.wt (.sl (l.map TDef.enc)) ≤ 1048576) : ∀ (n : Nat) (wa wb : List UInt8), wa.length + wb.length ≤ n → n ≤ 1048576 →
    Loop E_spec_SubTypeL1 [.sl (l.map TDef.enc), .sl d, .sl r, .s a, .s wa.reverse, .s b, .s wb.reverse] = .ret [.b (subW (below l a b) wa wb)] := by
  intro n
  induction n with
  | zero =>
    intro wa wb hn _
    have h1 : wa = [] := List.eq_nil_of_length_eq_zero (by omega)
    have h2 : wb = [] := List.eq_nil_of_length_eq_zero (by omega)
    subst h1 h2
    refine Loop_ret ?_
    simp [E_spec_SubTypeL1, subW, spec_l18Below l d r a b hw]
  | succ n ih =>
    intro wa wb hn hm
    have c33 : ∀ x : UInt8, ((x.toNat : Int) == 33) = (x == 33) := fun x => u8i x 33
    have c93 : ∀ x : UInt8, ((x.toNat : Int) == 93) = (x == 93) := fun x => u8i x 93
    cases wa with
    | nil =>
      cases wb with
      | nil =>
        refine Loop_ret ?_
        simp [E_spec_SubTypeL1, subW, spec_l18Below l d r a b hw]
      | cons y ys =>
        refine Loop_ret ?_
        have hy : ys.length ≤ 1048576 := by simp only [List.length_cons, List.length_nil] at hn; omega
        have g := snoc_get ys.reverse y
        rw [List.length_reverse] at g
        simp only [E_spec_SubTypeL1, List.getD_cons_zero, List.getD_cons_succ, DC.bb_b, DC.ii_i, DC.ss_s, DC.ll_sl, List.reverse_cons, List.length_append, List.length_reverse, List.length_singleton, wrap_pred hy, Int.toNat_natCast, g, c33, c93]
        have q1 : (ys.length : Int) < (ys.length : Int) + 1 := by omega
        have q4 : ¬ ((ys.length : Int) + 1 = 0) := by omega
        by_cases h33 : y = 33
        · simp [h33, subW, q1, q4]
        · simp [h33, subW, q1, q4]
    | cons x xs =>
      have hx : xs.length ≤ 1048576 := by simp only [List.length_cons] at hn; omega
      have gx := snoc_get xs.reverse x
      have tx := snoc_take xs.reverse x
      have p1 : (xs.length : Int) < (xs.length : Int) + 1 := by omega
      have p2 : (xs.length : Int) ≤ (xs.length : Int) + 1 := by omega
      have p3 : (0 : Int) < (xs.length : Int) + 1 := by omega
      have p4 : ¬ ((xs.length : Int) + 1 = 0) := by omega
      have p5 : IntKind.i64.wrap (xs.length : Int) = (xs.length : Int) := wrap64 (by omega) (by omega)
      have p6 : (xs.reverse ++ [x])[xs.length]? = some x := by simp
      rw [List.length_reverse] at gx tx
      cases wb with
      | nil =>
        by_cases h33 : x = 33
        · subst h33
          have := ih xs [] (by simp only [List.length_cons, List.length_nil] at hn ⊢; omega) (by omega)
          rw [Loop_norm (v' := [.sl (l.map TDef.enc), .sl d, .sl r, .s a, .s xs.reverse, .s b, .s ([] : List UInt8).reverse])]
          · rw [this]; simp [subW]
          · simp only [E_spec_SubTypeL1, List.getD_cons_zero, List.getD_cons_succ, DC.bb_b, DC.ii_i, DC.ss_s, DC.ll_sl, List.reverse_cons, List.length_append, List.length_reverse, List.length_singleton, wrap_pred hx, Int.toNat_natCast, gx, tx, c33, c93]
            simp [hx, p1, p2, p3, p4, p5, p6]
        · refine Loop_ret ?_
          simp only [E_spec_SubTypeL1, List.getD_cons_zero, List.getD_cons_succ, DC.bb_b, DC.ii_i, DC.ss_s, DC.ll_sl, List.reverse_cons, List.length_append, List.length_reverse, List.length_singleton, wrap_pred hx, Int.toNat_natCast, gx, tx, c33, c93]
          simp [h33, subW, hx, p1, p2, p3, p4, p5, p6]
      | cons y ys =>
        have hy : ys.length ≤ 1048576 := by simp only [List.length_cons] at hn; omega
        have gy := snoc_get ys.reverse y
        have ty := snoc_take ys.reverse y
        rw [List.length_reverse] at gy ty
        have q1 : (ys.length : Int) < (ys.length : Int) + 1 := by omega
        have q2 : (ys.length : Int) ≤ (ys.length : Int) + 1 := by omega
        have q3 : (0 : Int) < (ys.length : Int) + 1 := by omega
        have q4 : ¬ ((ys.length : Int) + 1 = 0) := by omega
        have q5 : IntKind.i64.wrap (ys.length : Int) = (ys.length : Int) := wrap64 (by omega) (by omega)
        have q6 : (ys.reverse ++ [y])[ys.length]? = some y := by simp
        by_cases y33 : y = 33
        · subst y33
          by_cases x33 : x = 33
          · subst x33
            rw [Loop_norm (v' := [.sl (l.map TDef.enc), .sl d, .sl r, .s a, .s xs.reverse, .s b, .s ys.reverse])]
            · rw [ih xs ys (by simp only [List.length_cons] at hn; omega) (by omega)]
              simp [subW]
            · simp only [E_spec_SubTypeL1, List.getD_cons_zero, List.getD_cons_succ, DC.bb_b, DC.ii_i, DC.ss_s, DC.ll_sl, List.reverse_cons, List.length_append, List.length_reverse, List.length_singleton, wrap_pred hx, wrap_pred hy, Int.toNat_natCast, gx, tx, gy, ty, c33, c93]
              simp [p1, p2, p3, p4, p5, p6, q1, q2, q3, q4, q5, q6, wrap_pred hx, wrap_pred hy, gx, tx, gy, ty]
          · refine Loop_ret ?_
            have nx : ¬ ((x.toNat : Int) = 33) := by
              intro h
              have := c33 x
              simp [h, x33] at this
            simp only [E_spec_SubTypeL1, List.getD_cons_zero, List.getD_cons_succ, DC.bb_b, DC.ii_i, DC.ss_s, DC.ll_sl, List.reverse_cons, List.length_append, List.length_reverse, List.length_singleton, wrap_pred hx, wrap_pred hy, Int.toNat_natCast, gx, tx, gy, ty, c33, c93]
            simp [x33, nx, p1, p2, p3, p4, p5, p6, q1, q2, q3, q4, q5, q6, subW]
        · by_cases x33 : x = 33
          · subst x33
            rw [Loop_norm (v' := [.sl (l.map TDef.enc), .sl d, .sl r, .s a, .s xs.reverse, .s b, .s (y :: ys).reverse])]
            · rw [ih xs (y :: ys) (by simp only [List.length_cons] at hn ⊢; omega) (by omega)]
              simp [subW, y33]
            · simp only [E_spec_SubTypeL1, List.getD_cons_zero, List.getD_cons_succ, DC.bb_b, DC.ii_i, DC.ss_s, DC.ll_sl, List.reverse_cons, List.length_append, List.length_reverse, List.length_singleton, wrap_pred hx, wrap_pred hy, Int.toNat_natCast, gx, tx, gy, ty, c33, c93]
              simp [y33, p1, p2, p3, p4, p5, p6, q1, q2, q3, q4, q5, q6]
          · by_cases h93 : x = 93 ∧ y = 93
            · obtain ⟨x93, y93⟩ := h93
              subst x93 y93
              rw [Loop_norm (v' := [.sl (l.map TDef.enc), .sl d, .sl r, .s a, .s xs.reverse, .s b, .s ys.reverse])]
              · rw [ih xs ys (by simp only [List.length_cons] at hn; omega) (by omega)]
                simp [subW]
              · simp only [E_spec_SubTypeL1, List.getD_cons_zero, List.getD_cons_succ, DC.bb_b, DC.ii_i, DC.ss_s, DC.ll_sl, List.reverse_cons, List.length_append, List.length_reverse, List.length_singleton, wrap_pred hx, wrap_pred hy, Int.toNat_natCast, gx, tx, gy, ty, c33, c93]
                simp [p1, p2, p3, p4, p5, p6, q1, q2, q3, q4, q5, q6]
            · refine Loop_ret ?_
              simp only [E_spec_SubTypeL1, List.getD_cons_zero, List.getD_cons_succ, DC.bb_b, DC.ii_i, DC.ss_s, DC.ll_sl, List.reverse_cons, List.length_append, List.length_reverse, List.length_singleton, wrap_pred hx, wrap_pred hy, Int.toNat_natCast, gx, tx, gy, ty, c33, c93]
              by_cases x93 : x = 93
              · have y93 : ¬ y = 93 := fun h => h93 ⟨x93, h⟩
                simp [y33, x33, x93, y93, p1, p2, p3, p4, p5, p6, q1, q2, q3, q4, q5, q6, subW]
              · simp [y33, x33, x93, p1, p2, p3, p4, p5, p6, q1, q2, q3, q4, q5, q6, subW]

theorem spec_SubType (l : List TDef) (d r : List (List DC)) (a wa b wb : List UInt8) (hw : DC.wt (.sl (l.map TDef.enc)) ≤ 1048576) (h1 : wa.length + wb.length ≤ 1048576) : r_spec_SubType [.sl (l.map TDef.enc), .sl d, .sl r, .s a, .s wa, .s b, .s wb] = .ret [.b (subW (below l a b) wa.reverse wb.reverse)] := by
  rw [eq_spec_SubType]
  have := spec_SubTypeL l d r a b hw (wa.length + wb.length) wa.reverse wb.reverse (by simp) h1
  rw [List.reverse_reverse, List.reverse_reverse] at this
  simp only [E_spec_SubType, List.getD_cons_zero, List.getD_cons_succ, DC.bb_b, DC.ii_i, DC.ss_s, DC.ll_sl, this, Out.andThenB_ret]

theorem cut_nil (c : UInt8) : r_strings_CutSuffix [.s [], .s [c]] = .ret [.s [], .b false] := by
  rw [eq_strings_CutSuffix]
  simp [E_strings_CutSuffix, eq_internal_stringslite_CutSuffix, E_internal_stringslite_CutSuffix, eq_internal_stringslite_HasSuffix, E_internal_stringslite_HasSuffix]

theorem cut_snoc (xs : List UInt8) (x c : UInt8) (hx : xs.length ≤ 1048576) : r_strings_CutSuffix [.s (xs ++ [x]), .s [c]] = .ret (if x = c then [.s xs, .b true] else [.s (xs ++ [x]), .b false]) := by
  have h1 := wrap_pred hx
  have h2 := snoc_drop xs x
  have h3 := snoc_take xs x
  have h4 : (xs.length : Int) ≤ ((xs.length + 1 : Nat) : Int) := by omega
  have h5 : (((xs.length + 1 : Nat) : Int) ≥ 1) := by omega
  rw [eq_strings_CutSuffix]
  simp only [E_strings_CutSuffix, eq_internal_stringslite_CutSuffix, E_internal_stringslite_CutSuffix, eq_internal_stringslite_HasSuffix, E_internal_stringslite_HasSuffix, List.getD_cons_zero, List.getD_cons_succ, DC.ss_s, List.length_append, List.length_singleton, Int.natCast_one, h1, h2, h3, h4, h5, Int.toNat_natCast, decide_true, if_true, Int.natCast_nonneg, and_true, true_and]
  by_cases hc : x = c <;> simp [hc]

theorem unwrapped_nil (a : List UInt8) (c : UInt8) : r_impl_unwrapped [.s a, .s [], .s [c]] = .ret [.s a, .s [], .b false] := by
  rw [eq_impl_unwrapped]
  simp [E_impl_unwrapped, cut_nil]
theorem unwrapped_snoc (a xs : List UInt8) (x c : UInt8) (hx : xs.length ≤ 1048576) : r_impl_unwrapped [.s a, .s (xs ++ [x]), .s [c]] = .ret (if x = c then [.s a, .s xs, .b true] else [.s a, .s (xs ++ [x]), .b false]) := by
  rw [eq_impl_unwrapped]
  simp only [E_impl_unwrapped, List.getD_cons_zero, List.getD_cons_succ, DC.ss_s, cut_snoc xs x c hx, Out.bindR_ret]
  by_cases hc : x = c <;> simp [hc]

theorem impl_SubTypeR (l : List TDef) (d r : List (List DC)) (a b : List UInt8) (hw : DC.wt (.sl (l.map TDef.enc)) ≤ 1048576) : ∀ (n : Nat) (wa wb : List UInt8), wa.length + wb.length ≤ n → n ≤ 1048576 →
    r_impl_SubType [.sl (l.map TDef.enc), .sl d, .sl r, .s a, .s wa.reverse, .s b, .s wb.reverse] = .ret [.b (subW (below l a b) wa wb)] := by
  intro n
  induction n with
  | zero =>
    intro wa wb hn _
    have h1 : wa = [] := List.eq_nil_of_length_eq_zero (by omega)
    have h2 : wb = [] := List.eq_nil_of_length_eq_zero (by omega)
    subst h1 h2
    rw [eq_impl_SubType]
    simp [E_impl_SubType, subW, impl_subName l d r a b hw, unwrapped_nil]
  | succ n ih =>
    intro wa wb hn hm
    rw [eq_impl_SubType]
    cases wa with
    | nil =>
      cases wb with
      | nil => simp [E_impl_SubType, subW, impl_subName l d r a b hw, unwrapped_nil]
      | cons y ys =>
        have hy : ys.reverse.length ≤ 1048576 := by simp only [List.length_cons, List.length_nil, List.length_reverse] at hn ⊢; omega
        simp only [E_impl_SubType, List.getD_cons_zero, List.getD_cons_succ, DC.bb_b, DC.ii_i, DC.ss_s, DC.ll_sl, List.reverse_cons, List.reverse_nil, unwrapped_nil, unwrapped_snoc _ _ _ _ hy, Out.bindR_ret]
        by_cases h33 : y = 33
        · simp [h33, subW]
        · by_cases h93 : y = 93 <;> simp [h33, h93, subW, unwrapped_nil, unwrapped_snoc _ _ _ _ hy]
    | cons x xs =>
      have hx : xs.reverse.length ≤ 1048576 := by simp only [List.length_cons, List.length_reverse] at hn ⊢; omega
      cases wb with
      | nil =>
        simp only [E_impl_SubType, List.getD_cons_zero, List.getD_cons_succ, DC.bb_b, DC.ii_i, DC.ss_s, DC.ll_sl, List.reverse_cons, List.reverse_nil, unwrapped_nil, unwrapped_snoc _ _ _ _ hx, Out.bindR_ret]
        by_cases h33 : x = 33
        · have := ih xs [] (by simp only [List.length_cons, List.length_nil] at hn ⊢; omega) (by omega)
          rw [List.reverse_nil] at this
          simp [h33, subW, this]
        · by_cases h93 : x = 93 <;> simp [h33, h93, subW, unwrapped_nil, unwrapped_snoc _ _ _ _ hx]
      | cons y ys =>
        have hy : ys.reverse.length ≤ 1048576 := by simp only [List.length_cons, List.length_reverse] at hn ⊢; omega
        have i1 := ih xs ys (by simp only [List.length_cons] at hn; omega) (by omega)
        have i2 := ih xs (y :: ys) (by simp only [List.length_cons] at hn ⊢; omega) (by omega)
        rw [List.reverse_cons] at i2
        simp only [E_impl_SubType, List.getD_cons_zero, List.getD_cons_succ, DC.bb_b, DC.ii_i, DC.ss_s, DC.ll_sl, List.reverse_cons, unwrapped_snoc _ _ _ _ hx, unwrapped_snoc _ _ _ _ hy, Out.bindR_ret]
        by_cases y33 : y = 33
        · by_cases x33 : x = 33
          · simp [y33, x33, subW, i1]
          · simp [y33, x33, subW]
        · by_cases x33 : x = 33
          · simp [y33, x33, subW, i2]
          · by_cases x93 : x = 93
            · by_cases y93 : y = 93
              · simp [x93, y93, subW, unwrapped_snoc _ _ _ _ hx, unwrapped_snoc _ _ _ _ hy, i1]
              · simp [y33, x93, y93, subW, unwrapped_snoc _ _ _ _ hx, unwrapped_snoc _ _ _ _ hy]
            · by_cases y93 : y = 93 <;> simp [y33, x33, x93, y93, subW, unwrapped_snoc _ _ _ _ hx, unwrapped_snoc _ _ _ _ hy]

theorem impl_SubType (l : List TDef) (d r : List (List DC)) (a wa b wb : List UInt8) (hw : DC.wt (.sl (l.map TDef.enc)) ≤ 1048576) (h1 : wa.length + wb.length ≤ 1048576) : r_impl_SubType [.sl (l.map TDef.enc), .sl d, .sl r, .s a, .s wa, .s b, .s wb] = .ret [.b (subW (below l a b) wa.reverse wb.reverse)] := by
  have := impl_SubTypeR l d r a b hw (wa.length + wb.length) wa.reverse wb.reverse (by simp) h1
  rwa [List.reverse_reverse, List.reverse_reverse] at this

end Go.Proofs.YtciandfkncadgaaV
