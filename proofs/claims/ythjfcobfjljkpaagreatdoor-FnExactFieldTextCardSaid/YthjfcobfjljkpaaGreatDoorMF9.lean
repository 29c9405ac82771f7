import Derived.Test.YthjfcobfjljkpaaGreatDoorMF8
import Derived.Test.YthjfcobfjljkpaaGreatDoorMF7
import Derived.Test.YthjfcobfjljkpaaGreatDoorMF6
/- Selections: the reference and the program print the same (written by a program in part). -/
namespace Go.Proofs.QV
open Go
set_option linter.unusedVariables false
set_option linter.unusedSimpArgs false
set_option maxRecDepth 100000
noncomputable def descOk (s : List UInt8) : Bool := s == [] || !(escaped s == [])
theorem spec_l13Desc (s : List UInt8) (hs : s.length ≤ 1048576) : r_spec_l13Desc [.s s] = .ret [.b (descOk s)] := by
  rw [eq_spec_l13Desc]
  simp only [E_spec_l13Desc, List.getD_cons_zero, List.getD_cons_succ, DC.bb_b, DC.ii_i, DC.ss_s, DC.ll_sl, spec_Escaped s hs, Out.bindR_ret, descOk]
  cases (s == ([] : List UInt8)) <;> simp
theorem impl_descOk (s : List UInt8) (hs : s.length ≤ 1048576) : r_impl_descOk [.s s] = .ret [.b (descOk s)] := by
  rw [eq_impl_descOk]
  simp only [E_impl_descOk, List.getD_cons_zero, List.getD_cons_succ, DC.bb_b, DC.ii_i, DC.ss_s, DC.ll_sl, impl_Escaped s hs, Out.bindR_ret, descOk]
  cases (s == ([] : List UInt8)) <;> simp
noncomputable def inOk (v : TInDef) : Bool := nameOk v.name && (descOk v.desc && (typeOk v.type'.name v.type'.wraps && (defOk v.has' v.default' && constsOk v.dirs)))
theorem in_wt (v : TInDef) : wtL v.enc = v.name.length + v.desc.length + v.type'.name.length + v.type'.wraps.length + wtL v.default'.enc + DC.wt (.sl (v.dirs.map TDir.enc)) := by
  rw [TInDef.enc_eq, TValue.enc_eq]
  simp only [wtL, DC.wt]
  omega
theorem spec_l13In (v : TInDef) (hw : wtL v.enc ≤ 1048576) : r_spec_l13In [.s v.name, .s v.desc, .s v.type'.name, .s v.type'.wraps, .b v.has', .i v.default'.kind, .s v.default'.text, .sl (v.default'.items.map TValue.enc), .sl (v.default'.names.map S1), .sl (v.dirs.map TDir.enc)] = .ret [.b (inOk v)] := by
  rw [in_wt] at hw
  rw [eq_spec_l13In]
  simp only [E_spec_l13In, List.getD_cons_zero, List.getD_cons_succ, DC.bb_b, DC.ii_i, DC.ss_s, DC.ll_sl, spec_NameOk v.name (by omega), spec_l13Desc v.desc (by omega), spec_TypeOk v.type'.name v.type'.wraps (by omega) (by omega), spec_l12Default v.has' v.default' (by omega), spec_l12Consts v.dirs (by omega), Out.bindR_ret, inOk]
  generalize nameOk v.name = p1
  generalize descOk v.desc = p2
  generalize typeOk v.type'.name v.type'.wraps = p3
  generalize defOk v.has' v.default' = p4
  generalize constsOk v.dirs = p5
  cases p1 <;> cases p2 <;> cases p3 <;> cases p4 <;> simp
theorem impl_inOk (v : TInDef) (hw : wtL v.enc ≤ 1048576) : r_impl_inOk [.s v.name, .s v.desc, .s v.type'.name, .s v.type'.wraps, .b v.has', .i v.default'.kind, .s v.default'.text, .sl (v.default'.items.map TValue.enc), .sl (v.default'.names.map S1), .sl (v.dirs.map TDir.enc)] = .ret [.b (inOk v)] := by
  rw [in_wt] at hw
  rw [eq_impl_inOk]
  simp only [E_impl_inOk, List.getD_cons_zero, List.getD_cons_succ, DC.bb_b, DC.ii_i, DC.ss_s, DC.ll_sl, impl_NameOk v.name (by omega), impl_descOk v.desc (by omega), impl_TypeOk v.type'.name v.type'.wraps (by omega) (by omega), impl_defaultOk v.has' v.default' (by omega), impl_constDirs v.dirs (by omega), Out.bindR_ret, inOk]
  generalize nameOk v.name = p1
  generalize descOk v.desc = p2
  generalize typeOk v.type'.name v.type'.wraps = p3
  generalize defOk v.has' v.default' = p4
  generalize constsOk v.dirs = p5
  cases p1 <;> cases p2 <;> cases p3 <;> cases p4 <;> simp
noncomputable def insOk (l : List TInDef) : Bool := l.all inOk
theorem cf_impl_insOk_1 (ok : TInDef → Bool) (l : List TInDef) (hl : l.length ≤ 1048576) (hc : ∀ x ∈ l, r_impl_insOk_1 [.s x.name, .s x.desc, .s x.type'.name, .s x.type'.wraps, .b x.has', .i x.default'.kind, .s x.default'.text, .sl (x.default'.items.map TValue.enc), .sl (x.default'.names.map S1), .sl (x.dirs.map TDir.enc)] = .ret [.b (!ok x)]) : r_slices_ContainsFunc_impl_InDef__impl_insOk_1 [.sl (l.map TInDef.enc)] = .ret [.b (!(l.all ok))] := by
  rw [eq_slices_ContainsFunc_impl_InDef__impl_insOk_1]
  simp only [E_slices_ContainsFunc_impl_InDef__impl_insOk_1, List.getD_cons_zero, DC.ll_sl]
  rw [eq_slices_IndexFunc_impl_InDef__impl_insOk_1]
  simp only [E_slices_IndexFunc_impl_InDef__impl_insOk_1, List.getD_cons_zero, DC.ll_sl, List.length_map]
  rw [show (0 : Int) = ((0 : Nat) : Int) from rfl, Loop_find0 (l := l) (st := fun i => [.sl (l.map TInDef.enc), .i (l.length : Int), .i (i : Int)]) (p := fun n => !ok n) (stop := fun i _ => .ret [.i (i : Int)]) (fin := .ex 0 []) (fun i hi => ?step) (fun _ _ => Out.esc_ret _) ?fin (Out.esc_ex _ _), goF_idx]
  · rw [List.not_all_eq_any_not]
    cases hf : l.findIdx? fun n => !ok n with
    | none =>
      have : (l.any fun n => !ok n) = false := by
        rw [List.any_eq_false]
        intro x hx
        have := List.findIdx?_eq_none_iff.1 hf x hx
        simpa using this
      rw [this]
      simp
    | some j =>
      obtain ⟨hj, h1, h2⟩ := List.findIdx?_eq_some_iff_getElem.1 hf
      have : (l.any fun n => !ok n) = true := List.any_eq_true.2 ⟨l[j], List.getElem_mem hj, h1⟩
      rw [this]
      simp [hj]
  case step =>
    have c2 : 0 ≤ (i : Int) ∧ (i : Int) < (l.length : Int) := by omega
    have d : decide ((i : Int) < (l.length : Int)) = true := decide_eq_true (by omega)
    have he : r_impl_insOk_1 [.s l[i].name, .s l[i].desc, .s l[i].type'.name, .s l[i].type'.wraps, .b l[i].has', .i l[i].default'.kind, .s l[i].default'.text, .sl (l[i].default'.items.map TValue.enc), .sl (l[i].default'.names.map S1), .sl (l[i].dirs.map TDir.enc)] = .ret [.b (!ok l[i])] := hc _ (List.getElem_mem hi)
    simp only [E_slices_IndexFunc_impl_InDef__impl_insOk_1L1, List.getD_cons_zero, List.getD_cons_succ, DC.bb_b, DC.ii_i, DC.ss_s, DC.ll_sl, Int.toNat_natCast, List.length_map, map_getD hi, TInDef.enc_eq, d, c2, he, Out.bindR_ret, true_and, and_self, if_true]
    cases ok l[i] <;> simp [wrap_succ hi (show l.length ≤ 9223372036854775807 by omega)]
  case fin => simp [E_slices_IndexFunc_impl_InDef__impl_insOk_1L1]
theorem impl_insOk (l : List TInDef) (hw : DC.wt (.sl (l.map TInDef.enc)) ≤ 1048576) : r_impl_insOk [.sl (l.map TInDef.enc)] = .ret [.b (insOk l)] := by
  obtain ⟨hl, hx⟩ := sl_wt hw
  rw [eq_impl_insOk]
  simp only [E_impl_insOk, List.getD_cons_zero, List.getD_cons_succ, DC.bb_b, DC.ii_i, DC.ss_s, DC.ll_sl]
  rw [cf_impl_insOk_1 inOk l hl fun x hm => by
    rw [eq_impl_insOk_1]
    simp only [E_impl_insOk_1, List.getD_cons_zero, List.getD_cons_succ, DC.bb_b, DC.ii_i, DC.ss_s, DC.ll_sl, impl_inOk x (hx x hm), Out.bindR_ret]]
  simp only [Out.bindR_ret, List.getD_cons_zero, List.getD_cons_succ, DC.bb_b, DC.ii_i, DC.ss_s, DC.ll_sl, Bool.not_not, insOk]
theorem spec_l13Ins (l : List TInDef) (hw : DC.wt (.sl (l.map TInDef.enc)) ≤ 1048576) : r_spec_l13Ins [.sl (l.map TInDef.enc)] = .ret [.b (insOk l)] := by
  obtain ⟨hl, hx⟩ := sl_wt hw
  rw [eq_spec_l13Ins]
  simp only [E_spec_l13Ins, List.getD_cons_zero, List.getD_cons_succ, DC.bb_b, DC.ii_i, DC.ss_s, DC.ll_sl]
  have hlp : Loop E_spec_l13InsL1 [.sl (l.map TInDef.enc), .i 0] = if l.all inOk = true then .ex 0 [] else .ret [.b false] := by
    rw [show (0 : Int) = ((0 : Nat) : Int) from rfl, Loop_find0 (l := l) (st := fun i => [.sl (l.map TInDef.enc), .i (i : Int)]) (p := fun x => !inOk x) (stop := fun i _ => .ret [.b false]) (fin := .ex 0 []) (fun i hi => ?step) (fun _ _ => Out.esc_ret _) ?fin (Out.esc_ex _ _), goF_any]
    · rw [show (l.any fun x => !inOk x) = !(l.all inOk) by rw [List.not_all_eq_any_not]]
      cases l.all inOk <;> simp
    case step =>
      have hx := spec_l13In l[i] (hx _ (List.getElem_mem hi))
      have c2 : 0 ≤ (i : Int) ∧ (i : Int) < (l.length : Int) := by omega
      have d : decide ((i : Int) < (l.length : Int)) = true := decide_eq_true (by omega)
      simp only [E_spec_l13InsL1, List.getD_cons_zero, List.getD_cons_succ, DC.bb_b, DC.ii_i, DC.ss_s, DC.ll_sl, Int.toNat_natCast, List.length_map, map_getD hi, d, c2, TInDef.enc_eq, hx, Out.bindR_ret, true_and, and_self, if_true, decide_true]
      rcases Bool.eq_false_or_eq_true (inOk l[i]) with q | q <;> simp [q, wrap_succ hi (show l.length ≤ 9223372036854775807 by omega)]
    case fin => simp [E_spec_l13InsL1]
  rw [hlp]
  unfold insOk
  cases l.all inOk <;> simp
noncomputable def fieldOk (v : TFieldDef) : Bool := nameOk v.name && (descOk v.desc && (typeOk v.type'.name v.type'.wraps && (insOk v.args && constsOk v.dirs)))
theorem field_wt (v : TFieldDef) : wtL v.enc = v.name.length + v.desc.length + DC.wt (.sl (v.args.map TInDef.enc)) + v.type'.name.length + v.type'.wraps.length + DC.wt (.sl (v.dirs.map TDir.enc)) := by
  rw [TFieldDef.enc_eq]
  simp only [wtL]
  simp only [DC.wt]
  omega
theorem spec_l13Field (v : TFieldDef) (hw : wtL v.enc ≤ 1048576) : r_spec_l13Field [.s v.name, .s v.desc, .sl (v.args.map TInDef.enc), .s v.type'.name, .s v.type'.wraps, .sl (v.dirs.map TDir.enc)] = .ret [.b (fieldOk v)] := by
  rw [field_wt] at hw
  rw [eq_spec_l13Field]
  simp only [E_spec_l13Field, List.getD_cons_zero, List.getD_cons_succ, DC.bb_b, DC.ii_i, DC.ss_s, DC.ll_sl, spec_NameOk v.name (by omega), spec_l13Desc v.desc (by omega), spec_TypeOk v.type'.name v.type'.wraps (by omega) (by omega), spec_l13Ins v.args (by omega), spec_l12Consts v.dirs (by omega), Out.bindR_ret, fieldOk]
  generalize nameOk v.name = p1
  generalize descOk v.desc = p2
  generalize typeOk v.type'.name v.type'.wraps = p3
  generalize insOk v.args = p4
  generalize constsOk v.dirs = p5
  cases p1 <;> cases p2 <;> cases p3 <;> cases p4 <;> cases p5 <;> simp
theorem impl_fieldOk (v : TFieldDef) (hw : wtL v.enc ≤ 1048576) : r_impl_fieldOk [.s v.name, .s v.desc, .sl (v.args.map TInDef.enc), .s v.type'.name, .s v.type'.wraps, .sl (v.dirs.map TDir.enc)] = .ret [.b (fieldOk v)] := by
  rw [field_wt] at hw
  rw [eq_impl_fieldOk]
  simp only [E_impl_fieldOk, List.getD_cons_zero, List.getD_cons_succ, DC.bb_b, DC.ii_i, DC.ss_s, DC.ll_sl, impl_NameOk v.name (by omega), impl_descOk v.desc (by omega), impl_TypeOk v.type'.name v.type'.wraps (by omega) (by omega), impl_insOk v.args (by omega), impl_constDirs v.dirs (by omega), Out.bindR_ret, fieldOk]
  generalize nameOk v.name = p1
  generalize descOk v.desc = p2
  generalize typeOk v.type'.name v.type'.wraps = p3
  generalize insOk v.args = p4
  generalize constsOk v.dirs = p5
  cases p1 <;> cases p2 <;> cases p3 <;> cases p4 <;> cases p5 <;> simp
theorem spec_TypeText (n w : List UInt8) (hn : n.length ≤ 1048576) (hg : typeOk n w = true) : r_spec_TypeText [.s n, .s w] = .ret [.s (typeT n w)] := by
  have hw8 : w.length ≤ 8 := by
    unfold typeOk at hg
    simp only [Bool.and_eq_true, decide_eq_true_eq] at hg
    exact hg.2.1
  have hk := spec_TypeOk n w hn (by omega)
  rw [hg] at hk
  have h := Loop_upto (F := E_spec_TypeTextL1) (st := fun i => [.s (typeT n (w.take i)), .i (i : Int), .s n, .s w]) (o := .ex 0 [.s (typeT n w)]) w.length 0 (fun j _ hj => ?step) ?fin
  case step =>
    have hj : j < w.length := by omega
    have hl := type_len (w.take j) n
    rw [List.length_take] at hl
    have hg' : w.getD j 0 = w[j] := by rw [List.getD_eq_getElem?_getD, List.getElem?_eq_getElem hj]; rfl
    have c2 : 0 ≤ (j : Int) ∧ (j : Int) < (w.length : Int) := by omega
    have d : decide ((j : Int) < (w.length : Int)) = true := decide_eq_true (by omega)
    have wi := wrap_succ hj (show w.length ≤ 9223372036854775807 by omega)
    have hu : ((w[j].toNat : Int) == 33) = (w[j] == 33) := u8_eq w[j] 33 (by omega)
    have ht : typeT n (w.take (j + 1)) = wrapT (typeT n (w.take j)) w[j] := by
      unfold typeT
      rw [← List.take_append_getElem hj, List.foldl_append]
      rfl
    try dsimp only
    rw [ht]
    unfold wrapT
    by_cases hc : w[j] = 33
    · have hb : (w[j] == 33) = true := beq_iff_eq.2 hc
      rw [if_pos hc]
      simp (disch := first | omega | (simp only [List.length_append, List.length_cons, List.length_nil, brows_len, LIM] <;> omega) | fail) only [E_spec_TypeTextL1, List.getD_cons_zero, List.getD_cons_succ, DC.bb_b, DC.ii_i, DC.ss_s, DC.ll_sl, bytesRow_eq, brows_app', brows_len, List.length_append, List.length_cons, List.length_nil, LIM, if_true, if_false, Bool.false_eq_true, Out.bindR_ret, Out.andThen_norm, Out.andThenB_ret, Out.andThenB_norm, Out.andThenB_ex, if_pos, Int.toNat_natCast, List.length_map, true_and, and_self, decide_true, b64, b58, b44, b46, b36, b40, b41, b91, b93, b123, b125, b32, b10, bc44, bc58, bc32, bc46, bc123, bc64, bc10, bc125, bc40, bc41, bc91, bc93, bc36, hg', hu, hb, d, c2, wi]
    · have hb : (w[j] == 33) = false := beq_eq_false_iff_ne.2 hc
      rw [if_neg hc]
      simp (disch := first | omega | (simp only [List.length_append, List.length_cons, List.length_nil, brows_len, LIM] <;> omega) | fail) only [E_spec_TypeTextL1, List.getD_cons_zero, List.getD_cons_succ, DC.bb_b, DC.ii_i, DC.ss_s, DC.ll_sl, bytesRow_eq, brows_app', brows_len, List.length_append, List.length_cons, List.length_nil, LIM, if_true, if_false, Bool.false_eq_true, Out.bindR_ret, Out.andThen_norm, Out.andThenB_ret, Out.andThenB_norm, Out.andThenB_ex, if_pos, Int.toNat_natCast, List.length_map, true_and, and_self, decide_true, b64, b58, b44, b46, b36, b40, b41, b91, b93, b123, b125, b32, b10, bc44, bc58, bc32, bc46, bc123, bc64, bc10, bc125, bc40, bc41, bc91, bc93, bc36, hg', hu, hb, d, c2, wi]
      rfl
  case fin =>
    refine Loop_ex ?_
    try dsimp only
    rw [Nat.zero_add, List.take_length]
    simp [E_spec_TypeTextL1]
  rw [List.take_zero, Int.natCast_zero] at h
  rw [eq_spec_TypeText]
  have h' : typeT n [] = n := rfl
  rw [h'] at h
  simp only [E_spec_TypeText, List.getD_cons_zero, List.getD_cons_succ, DC.bb_b, DC.ii_i, DC.ss_s, DC.ll_sl, hk, Bool.not_true, Bool.false_eq_true, if_false, if_true, Out.bindR_ret, h, Out.andThenB_ex]
theorem impl_TypeText (n w : List UInt8) (hn : n.length ≤ 1048576) (hg : typeOk n w = true) : r_impl_TypeText [.s n, .s w] = .ret [.s (typeT n w)] := by
  have hw8 : w.length ≤ 8 := by
    unfold typeOk at hg
    simp only [Bool.and_eq_true, decide_eq_true_eq] at hg
    exact hg.2.1
  have hk := impl_TypeOk n w hn (by omega)
  rw [hg] at hk
  have h := Loop_upto (F := E_impl_TypeTextL1) (st := fun i => [.s (typeT n (w.take i)), .i (w.length : Int), .i (i : Int), .s n, .s w]) (o := .ex 0 [.s (typeT n w)]) w.length 0 (fun j _ hj => ?step) ?fin
  case step =>
    have hj : j < w.length := by omega
    have hl := type_len (w.take j) n
    rw [List.length_take] at hl
    have hg' : w.getD j 0 = w[j] := by rw [List.getD_eq_getElem?_getD, List.getElem?_eq_getElem hj]; rfl
    have c2 : 0 ≤ (j : Int) ∧ (j : Int) < (w.length : Int) := by omega
    have d : decide ((j : Int) < (w.length : Int)) = true := decide_eq_true (by omega)
    have wi := wrap_succ hj (show w.length ≤ 9223372036854775807 by omega)
    have hu : ((w[j].toNat : Int) == 33) = (w[j] == 33) := u8_eq w[j] 33 (by omega)
    have ht : typeT n (w.take (j + 1)) = wrapT (typeT n (w.take j)) w[j] := by
      unfold typeT
      rw [← List.take_append_getElem hj, List.foldl_append]
      rfl
    try dsimp only
    rw [ht]
    unfold wrapT
    by_cases hc : w[j] = 33
    · have hb : (w[j] == 33) = true := beq_iff_eq.2 hc
      rw [if_pos hc]
      simp (disch := first | omega | (simp only [List.length_append, List.length_cons, List.length_nil, brows_len, LIM] <;> omega) | fail) only [E_impl_TypeTextL1, List.getD_cons_zero, List.getD_cons_succ, DC.bb_b, DC.ii_i, DC.ss_s, DC.ll_sl, bytesRow_eq, brows_app', brows_len, List.length_append, List.length_cons, List.length_nil, LIM, if_true, if_false, Bool.false_eq_true, Out.bindR_ret, Out.andThen_norm, Out.andThenB_ret, Out.andThenB_norm, Out.andThenB_ex, if_pos, Int.toNat_natCast, List.length_map, true_and, and_self, decide_true, b64, b58, b44, b46, b36, b40, b41, b91, b93, b123, b125, b32, b10, bc44, bc58, bc32, bc46, bc123, bc64, bc10, bc125, bc40, bc41, bc91, bc93, bc36, hg', hu, hb, d, c2, wi]
    · have hb : (w[j] == 33) = false := beq_eq_false_iff_ne.2 hc
      rw [if_neg hc]
      simp (disch := first | omega | (simp only [List.length_append, List.length_cons, List.length_nil, brows_len, LIM] <;> omega) | fail) only [E_impl_TypeTextL1, List.getD_cons_zero, List.getD_cons_succ, DC.bb_b, DC.ii_i, DC.ss_s, DC.ll_sl, bytesRow_eq, brows_app', brows_len, List.length_append, List.length_cons, List.length_nil, LIM, if_true, if_false, Bool.false_eq_true, Out.bindR_ret, Out.andThen_norm, Out.andThenB_ret, Out.andThenB_norm, Out.andThenB_ex, if_pos, Int.toNat_natCast, List.length_map, true_and, and_self, decide_true, b64, b58, b44, b46, b36, b40, b41, b91, b93, b123, b125, b32, b10, bc44, bc58, bc32, bc46, bc123, bc64, bc10, bc125, bc40, bc41, bc91, bc93, bc36, hg', hu, hb, d, c2, wi]
      rfl
  case fin =>
    refine Loop_ex ?_
    try dsimp only
    rw [Nat.zero_add, List.take_length]
    simp [E_impl_TypeTextL1]
  rw [List.take_zero, Int.natCast_zero] at h
  rw [eq_impl_TypeText]
  have h' : typeT n [] = n := rfl
  rw [h'] at h
  simp only [E_impl_TypeText, List.getD_cons_zero, List.getD_cons_succ, DC.bb_b, DC.ii_i, DC.ss_s, DC.ll_sl, hk, Bool.not_true, Bool.false_eq_true, if_false, if_true, Out.bindR_ret, h, Out.andThenB_ex]
def defaultT (has : Bool) (v : TValue) : List UInt8 := if has = true then [32, 61, 32] ++ valT v else []
theorem impl_defaultText (has : Bool) (v : TValue) (hw : wtL v.enc ≤ 1048576) (hg : defOk has v = true) : r_impl_defaultText [.b has, .i v.kind, .s v.text, .sl (v.items.map TValue.enc), .sl (v.names.map S1)] = .ret [.s (defaultT has v)] := by
  rw [eq_impl_defaultText]
  unfold defaultT
  cases has with
  | false => simp [E_impl_defaultText]
  | true =>
    have hv : valOk v = true := by
      simp only [defOk, if_true, Bool.and_eq_true] at hg
      exact hg.1
    have h1 := impl_ValueOk v hw
    rw [hv] at h1
    have h2 := impl_printValue v hw 10 (by omega) (by omega) hv
    have hl := valT_len v
    have h3 : r_impl_ValueText [.i v.kind, .s v.text, .sl (v.items.map TValue.enc), .sl (v.names.map S1)] = .ret [.s (valT v)] := by
      rw [eq_impl_ValueText]
      simp only [E_impl_ValueText, List.getD_cons_zero, List.getD_cons_succ, DC.bb_b, DC.ii_i, DC.ss_s, DC.ll_sl, h1, h2, Out.bindR_ret, Bool.not_true, Bool.false_eq_true, if_false]
    simp (disch := first | omega | (simp only [List.length_append, List.length_cons, List.length_nil, brows_len, LIM] <;> omega) | fail) only [E_impl_defaultText, List.getD_cons_zero, List.getD_cons_succ, DC.bb_b, DC.ii_i, DC.ss_s, DC.ll_sl, bytesRow_eq, brows_app', brows_len, List.length_append, List.length_cons, List.length_nil, LIM, if_true, if_false, Bool.false_eq_true, Out.bindR_ret, Out.andThen_norm, Out.andThenB_ret, Out.andThenB_norm, Out.andThenB_ex, if_pos, Int.toNat_natCast, List.length_map, true_and, and_self, decide_true, b64, b58, b44, b46, b36, b40, b41, b91, b93, b123, b125, b32, b10, bc44, bc58, bc32, bc46, bc123, bc64, bc10, bc125, bc40, bc41, bc91, bc93, bc36, h3, Bool.not_true]
theorem default_len (has : Bool) (v : TValue) : (defaultT has v).length ≤ 8 * wtL v.enc + 5 := by
  have := valT_len v
  unfold defaultT
  split
  · simp only [List.length_append, List.length_cons, List.length_nil]; omega
  · simp
def inT (v : TInDef) : List UInt8 := (if v.desc = [] then [] else escaped v.desc ++ [32]) ++ (v.name ++ ([58, 32] ++ (typeT v.type'.name v.type'.wraps ++ (defaultT v.has' v.default' ++ dirsT v.dirs))))
theorem in_facts {v : TInDef} (h : inOk v = true) : typeOk v.type'.name v.type'.wraps = true ∧ defOk v.has' v.default' = true ∧ dirsOk v.dirs = true ∧ v.type'.wraps.length ≤ 8 := by
  simp only [inOk, constsOk, typeOk, Bool.and_eq_true, decide_eq_true_eq] at h ⊢
  exact ⟨h.2.2.1, h.2.2.2.1, h.2.2.2.2.1, h.2.2.1.2.1⟩
theorem in_len (v : TInDef) (h : inOk v = true) : (inT v).length ≤ 8 * wtL v.enc + 30 := by
  have h1 := escaped_len v.desc
  have h2 := type_len v.type'.wraps v.type'.name
  have h3 := default_len v.has' v.default'
  have h4 := dirs_len v.dirs
  have h5 := (in_facts h).2.2.2
  rw [in_wt]
  unfold inT
  simp only [List.length_append, List.length_cons, List.length_nil]
  split
  · simp only [List.length_nil]; omega
  · simp only [List.length_append, List.length_cons, List.length_nil]; omega
theorem spec_l13SayIn (v : TInDef) (hw : wtL v.enc ≤ 1048576) (hg : inOk v = true) (out : List UInt8) (ho : out.length + (inT v).length < 1073741824) : r_spec_l13SayIn [.sl (brows out), .s v.name, .s v.desc, .s v.type'.name, .s v.type'.wraps, .b v.has', .i v.default'.kind, .s v.default'.text, .sl (v.default'.items.map TValue.enc), .sl (v.default'.names.map S1), .sl (v.dirs.map TDir.enc)] = .ret [.sl (brows (out ++ inT v))] := by
  obtain ⟨g1, g2, g3, g4⟩ := in_facts hg
  rw [in_wt] at hw
  have hE := spec_Escaped v.desc (by omega)
  have hT := spec_TypeText v.type'.name v.type'.wraps (by omega) g1
  have hD := spec_l10SayDirs v.dirs (by omega) g3
  unfold inT at ho ⊢
  simp only [List.length_append, List.length_cons, List.length_nil] at ho
  rw [eq_spec_l13SayIn]
  by_cases kd : v.desc = []
  · have cd : (v.desc == ([] : List UInt8)) = true := beq_iff_eq.2 kd
    rw [if_pos kd] at ho ⊢
    simp only [List.length_nil] at ho
    cases hh : v.has' with
    | false =>
      rw [hh] at ho
      simp only [defaultT, Bool.false_eq_true, if_false, List.length_nil] at ho ⊢
      simp (disch := first | omega | (simp only [List.length_append, List.length_cons, List.length_nil, brows_len, LIM] <;> omega) | fail) only [E_spec_l13SayIn, List.getD_cons_zero, List.getD_cons_succ, DC.bb_b, DC.ii_i, DC.ss_s, DC.ll_sl, bytesRow_eq, brows_app', brows_len, List.length_append, List.length_cons, List.length_nil, LIM, if_true, if_false, Bool.false_eq_true, Out.bindR_ret, Out.andThen_norm, Out.andThenB_ret, Out.andThenB_norm, Out.andThenB_ex, if_pos, Int.toNat_natCast, List.length_map, true_and, and_self, decide_true, b64, b58, b44, b46, b36, b40, b41, b91, b93, b123, b125, b32, b10, bc44, bc58, bc32, bc46, bc123, bc64, bc10, bc125, bc40, bc41, bc91, bc93, bc36, cd, hE, hT, hD, Bool.not_true, Bool.not_false]
      simp
    | true =>
      rw [hh] at ho g2
      have hv : valOk v.default' = true := by
        simp only [defOk, if_true, Bool.and_eq_true] at g2
        exact g2.1
      have hV := spec_l07Say v.default' (by omega) 10 (by omega) (by omega) hv
      simp only [defaultT, if_true, List.length_append, List.length_cons, List.length_nil] at ho ⊢
      simp (disch := first | omega | (simp only [List.length_append, List.length_cons, List.length_nil, brows_len, LIM] <;> omega) | fail) only [E_spec_l13SayIn, List.getD_cons_zero, List.getD_cons_succ, DC.bb_b, DC.ii_i, DC.ss_s, DC.ll_sl, bytesRow_eq, brows_app', brows_len, List.length_append, List.length_cons, List.length_nil, LIM, if_true, if_false, Bool.false_eq_true, Out.bindR_ret, Out.andThen_norm, Out.andThenB_ret, Out.andThenB_norm, Out.andThenB_ex, if_pos, Int.toNat_natCast, List.length_map, true_and, and_self, decide_true, b64, b58, b44, b46, b36, b40, b41, b91, b93, b123, b125, b32, b10, bc44, bc58, bc32, bc46, bc123, bc64, bc10, bc125, bc40, bc41, bc91, bc93, bc36, cd, hE, hT, hD, hV, Bool.not_true, Bool.not_false]
      simp
  · have cd : (v.desc == ([] : List UInt8)) = false := beq_eq_false_iff_ne.2 kd
    rw [if_neg kd] at ho ⊢
    simp only [List.length_append, List.length_cons, List.length_nil] at ho
    cases hh : v.has' with
    | false =>
      rw [hh] at ho
      simp only [defaultT, Bool.false_eq_true, if_false, List.length_nil] at ho ⊢
      simp (disch := first | omega | (simp only [List.length_append, List.length_cons, List.length_nil, brows_len, LIM] <;> omega) | fail) only [E_spec_l13SayIn, List.getD_cons_zero, List.getD_cons_succ, DC.bb_b, DC.ii_i, DC.ss_s, DC.ll_sl, bytesRow_eq, brows_app', brows_len, List.length_append, List.length_cons, List.length_nil, LIM, if_true, if_false, Bool.false_eq_true, Out.bindR_ret, Out.andThen_norm, Out.andThenB_ret, Out.andThenB_norm, Out.andThenB_ex, if_pos, Int.toNat_natCast, List.length_map, true_and, and_self, decide_true, b64, b58, b44, b46, b36, b40, b41, b91, b93, b123, b125, b32, b10, bc44, bc58, bc32, bc46, bc123, bc64, bc10, bc125, bc40, bc41, bc91, bc93, bc36, cd, hE, hT, hD, Bool.not_true, Bool.not_false]
      simp
    | true =>
      rw [hh] at ho g2
      have hv : valOk v.default' = true := by
        simp only [defOk, if_true, Bool.and_eq_true] at g2
        exact g2.1
      have hV := spec_l07Say v.default' (by omega) 10 (by omega) (by omega) hv
      simp only [defaultT, if_true, List.length_append, List.length_cons, List.length_nil] at ho ⊢
      simp (disch := first | omega | (simp only [List.length_append, List.length_cons, List.length_nil, brows_len, LIM] <;> omega) | fail) only [E_spec_l13SayIn, List.getD_cons_zero, List.getD_cons_succ, DC.bb_b, DC.ii_i, DC.ss_s, DC.ll_sl, bytesRow_eq, brows_app', brows_len, List.length_append, List.length_cons, List.length_nil, LIM, if_true, if_false, Bool.false_eq_true, Out.bindR_ret, Out.andThen_norm, Out.andThenB_ret, Out.andThenB_norm, Out.andThenB_ex, if_pos, Int.toNat_natCast, List.length_map, true_and, and_self, decide_true, b64, b58, b44, b46, b36, b40, b41, b91, b93, b123, b125, b32, b10, bc44, bc58, bc32, bc46, bc123, bc64, bc10, bc125, bc40, bc41, bc91, bc93, bc36, cd, hE, hT, hD, hV, Bool.not_true, Bool.not_false]
      simp
noncomputable def inText (v : TInDef) : List UInt8 := if inOk v = true then inT v else []
theorem impl_InText (v : TInDef) (hw : wtL v.enc ≤ 1048576) : r_impl_InText [.s v.name, .s v.desc, .s v.type'.name, .s v.type'.wraps, .b v.has', .i v.default'.kind, .s v.default'.text, .sl (v.default'.items.map TValue.enc), .sl (v.default'.names.map S1), .sl (v.dirs.map TDir.enc)] = .ret [.s (inText v)] := by
  have hk := impl_inOk v hw
  rw [eq_impl_InText]
  unfold inText
  cases hg : inOk v with
  | false => rw [hg] at hk; simp only [E_impl_InText, List.getD_cons_zero, List.getD_cons_succ, DC.bb_b, DC.ii_i, DC.ss_s, DC.ll_sl, hk, Out.bindR_ret, Bool.not_false, if_true, Bool.false_eq_true, if_false]
  | true =>
    have hl := in_len v hg
    have hl2 : (inT v).length ≤ 8388638 := by omega
    clear hl
    obtain ⟨g1, g2, g3, g4⟩ := in_facts hg
    rw [in_wt] at hw
    have hE := impl_Escaped v.desc (by omega)
    have hT := impl_TypeText v.type'.name v.type'.wraps (by omega) g1
    have hV := impl_defaultText v.has' v.default' (by omega) g2
    have hD := impl_DirsText v.dirs (by omega) g3
    rw [hg] at hk
    unfold inT at hl2 ⊢
    simp only [List.length_append, List.length_cons, List.length_nil] at hl2
    by_cases kd : v.desc = []
    · have cd : (v.desc == ([] : List UInt8)) = true := beq_iff_eq.2 kd
      rw [if_pos kd] at hl2 ⊢
      simp only [List.length_nil] at hl2
      simp (disch := first | omega | (simp only [List.length_append, List.length_cons, List.length_nil, brows_len, LIM] <;> omega) | fail) only [E_impl_InText, List.getD_cons_zero, List.getD_cons_succ, DC.bb_b, DC.ii_i, DC.ss_s, DC.ll_sl, bytesRow_eq, brows_app', brows_len, List.length_append, List.length_cons, List.length_nil, LIM, if_true, if_false, Bool.false_eq_true, Out.bindR_ret, Out.andThen_norm, Out.andThenB_ret, Out.andThenB_norm, Out.andThenB_ex, if_pos, Int.toNat_natCast, List.length_map, true_and, and_self, decide_true, b64, b58, b44, b46, b36, b40, b41, b91, b93, b123, b125, b32, b10, bc44, bc58, bc32, bc46, bc123, bc64, bc10, bc125, bc40, bc41, bc91, bc93, bc36, hk, cd, hE, hT, hV, hD, Bool.not_true, Bool.not_false]
      simp
    · have cd : (v.desc == ([] : List UInt8)) = false := beq_eq_false_iff_ne.2 kd
      rw [if_neg kd] at hl2 ⊢
      simp only [List.length_append, List.length_cons, List.length_nil] at hl2
      simp (disch := first | omega | (simp only [List.length_append, List.length_cons, List.length_nil, brows_len, LIM] <;> omega) | fail) only [E_impl_InText, List.getD_cons_zero, List.getD_cons_succ, DC.bb_b, DC.ii_i, DC.ss_s, DC.ll_sl, bytesRow_eq, brows_app', brows_len, List.length_append, List.length_cons, List.length_nil, LIM, if_true, if_false, Bool.false_eq_true, Out.bindR_ret, Out.andThen_norm, Out.andThenB_ret, Out.andThenB_norm, Out.andThenB_ex, if_pos, Int.toNat_natCast, List.length_map, true_and, and_self, decide_true, b64, b58, b44, b46, b36, b40, b41, b91, b93, b123, b125, b32, b10, bc44, bc58, bc32, bc46, bc123, bc64, bc10, bc125, bc40, bc41, bc91, bc93, bc36, hk, cd, hE, hT, hV, hD, Bool.not_true, Bool.not_false]
      simp
def insT (l : List TInDef) : List UInt8 := jt [40] [44, 32] inT l ++ (if l.isEmpty then [] else [41])
theorem insT_cons (x : TInDef) (l : List TInDef) : insT (x :: l) = 40 :: (Lib.join ((x :: l).map inT) [44, 32] ++ [41]) := by
  rw [insT, jt_cons]
  rfl
theorem ins_each {l : List TInDef} (h : insOk l = true) : ∀ x ∈ l, inOk x = true := fun x hx => List.all_eq_true.1 h x hx
theorem ins_len (l : List TInDef) (h : insOk l = true) : (insT l).length ≤ 40 * DC.wt (.sl (l.map TInDef.enc)) := by
  cases l with
  | nil => simp [insT, jt]
  | cons x l =>
    have h1 := join_len ((x :: l).map inT)
    have h2 := sum_wtV (enc := TInDef.enc) (f := inT) (a := 8) (b := 30) (x :: l) fun y hy => in_len y (ins_each h y hy)
    rw [insT_cons, DC.wt]
    rw [List.length_map] at h1
    simp only [List.length_cons, List.length_append, List.length_nil, List.length_map] at h1 h2 ⊢
    omega
theorem spec_l13SayIns (l : List TInDef) (hw : DC.wt (.sl (l.map TInDef.enc)) ≤ 1048576) (hg : insOk l = true) (out : List UInt8) (ho : out.length + (insT l).length < 1073741824) :
    r_spec_l13SayIns [.sl (brows out), .sl (l.map TInDef.enc)] = .ret [.sl (brows (out ++ insT l))] := by
  obtain ⟨hl, hx⟩ := sl_wt hw
  unfold insT at ho ⊢
  rw [List.length_append] at ho
  have hlp := jt_loop (o := [40]) (sep := [44, 32]) (f := inT) (l := l) (st := fun i cur => [.sl (brows cur), .sl (l.map TInDef.enc), .i (i : Int)]) (F := E_spec_l13SayInsL1) (res := .ex 0 [.sl (brows (out ++ jt [40] [44, 32] inT l)), .sl (l.map TInDef.enc)]) out
    (fun i hi cur hc => ?step) ?fin (Out.esc_ex _ _)
  case fin => simp [E_spec_l13SayInsL1]
  case step =>
    have hm := List.getElem_mem hi
    have hv := spec_l13SayIn l[i] (hx _ hm) (ins_each hg _ hm)
    have c2 : 0 ≤ (i : Int) ∧ (i : Int) < (l.length : Int) := by omega
    have d : decide ((i : Int) < (l.length : Int)) = true := decide_eq_true (by omega)
    have wi := wrap_succ hi (show l.length ≤ 9223372036854775807 by omega)
    by_cases h0 : i = 0
    · have c0 : ((i : Int) == 0) = true := beq_iff_eq.2 (by omega)
      rw [if_pos h0] at hc ⊢
      simp only [List.length_append, List.length_cons, List.length_nil] at hc
      simp (disch := first | omega | (simp only [List.length_append, List.length_cons, List.length_nil, brows_len, LIM] <;> omega) | fail) only [E_spec_l13SayInsL1, List.getD_cons_zero, List.getD_cons_succ, DC.bb_b, DC.ii_i, DC.ss_s, DC.ll_sl, bytesRow_eq, brows_app', brows_len, List.length_append, List.length_cons, List.length_nil, LIM, if_true, if_false, Bool.false_eq_true, Out.bindR_ret, Out.andThen_norm, Out.andThenB_ret, Out.andThenB_norm, Out.andThenB_ex, if_pos, Int.toNat_natCast, List.length_map, true_and, and_self, decide_true, b64, b58, b44, b46, b36, b40, b41, b91, b93, b123, b125, b32, b10, bc44, bc58, bc32, bc46, bc123, bc64, bc10, bc125, bc40, bc41, bc91, bc93, bc36, map_getD hi, TInDef.enc_eq, d, c0, c2, hv, wi]
      simp
    · have c0 : ((i : Int) == 0) = false := beq_eq_false_iff_ne.2 (by omega)
      rw [if_neg h0] at hc ⊢
      simp only [List.length_append, List.length_cons, List.length_nil] at hc
      simp (disch := first | omega | (simp only [List.length_append, List.length_cons, List.length_nil, brows_len, LIM] <;> omega) | fail) only [E_spec_l13SayInsL1, List.getD_cons_zero, List.getD_cons_succ, DC.bb_b, DC.ii_i, DC.ss_s, DC.ll_sl, bytesRow_eq, brows_app', brows_len, List.length_append, List.length_cons, List.length_nil, LIM, if_true, if_false, Bool.false_eq_true, Out.bindR_ret, Out.andThen_norm, Out.andThenB_ret, Out.andThenB_norm, Out.andThenB_ex, if_pos, Int.toNat_natCast, List.length_map, true_and, and_self, decide_true, b64, b58, b44, b46, b36, b40, b41, b91, b93, b123, b125, b32, b10, bc44, bc58, bc32, bc46, bc123, bc64, bc10, bc125, bc40, bc41, bc91, bc93, bc36, map_getD hi, TInDef.enc_eq, d, c0, c2, hv, wi]
      simp
  rw [Int.natCast_zero] at hlp
  rw [eq_spec_l13SayIns]
  cases l with
  | nil => simp at hlp; simp [E_spec_l13SayIns, hlp]
  | cons a l =>
    have hpos : decide ((((a :: l).map TInDef.enc).length : Int) > 0) = true := decide_eq_true (by simp)
    simp only [List.isEmpty_cons, Bool.false_eq_true, if_false, List.length_cons, List.length_nil] at ho
    simp only [List.length_map] at hpos
    simp (disch := first | omega | (simp only [List.length_append, List.length_cons, List.length_nil, brows_len, LIM] <;> omega) | fail) only [E_spec_l13SayIns, List.getD_cons_zero, List.getD_cons_succ, DC.bb_b, DC.ii_i, DC.ss_s, DC.ll_sl, bytesRow_eq, brows_app', brows_len, List.length_append, List.length_cons, List.length_nil, LIM, if_true, if_false, Bool.false_eq_true, Out.bindR_ret, Out.andThen_norm, Out.andThenB_ret, Out.andThenB_norm, Out.andThenB_ex, if_pos, Int.toNat_natCast, List.length_map, true_and, and_self, decide_true, b64, b58, b44, b46, b36, b40, b41, b91, b93, b123, b125, b32, b10, bc44, bc58, bc32, bc46, bc123, bc64, bc10, bc125, bc40, bc41, bc91, bc93, bc36, hlp, hpos, List.isEmpty_cons]
    simp
theorem impl_insText (l : List TInDef) (hw : DC.wt (.sl (l.map TInDef.enc)) ≤ 1048576) (hg : insOk l = true) : r_impl_insText [.sl (l.map TInDef.enc)] = .ret [.s (insT l)] := by
  obtain ⟨hl, hx⟩ := sl_wt hw
  have hb := ins_len l hg
  rw [eq_impl_insText]
  cases l with
  | nil => simp [E_impl_insText, insT, jt]
  | cons a0 l0 =>
    have hz : ((((a0 :: l0).map TInDef.enc).length : Int) == 0) = false := beq_eq_false_iff_ne.2 (by simp; omega)
    rw [insT_cons] at hb ⊢
    generalize hL : a0 :: l0 = l at *
    simp only [List.length_cons, List.length_append, List.length_nil] at hb
    have hJ := Join_ok (l.map inT) (by rw [List.length_map]; exact hl) (by omega)
    have hlp := words_loop (w := inT) (l := l) (st := fun i cur => [.sl cur, .sl (l.map TInDef.enc), .i (l.length : Int), .i (i : Int)]) (F := E_impl_insTextL1) (res := .ex 0 [.sl ((l.map inT).map fun x => [DC.s x])])
      (fun i hi cur hc => ?step) ?fin (Out.esc_ex _ _)
    case fin => simp [E_impl_insTextL1, Function.comp_def]
    case step =>
      have hm := List.getElem_mem hi
      have hv := impl_InText l[i] (hx _ hm)
      have hv2 : inText l[i] = inT l[i] := by unfold inText; rw [if_pos (ins_each hg _ hm)]
      rw [hv2] at hv
      have c2 : 0 ≤ (i : Int) ∧ (i : Int) < (l.length : Int) := by omega
      have d : decide ((i : Int) < (l.length : Int)) = true := decide_eq_true (by omega)
      have wi := wrap_succ hi (show l.length ≤ 9223372036854775807 by omega)
      simp (disch := first | omega | (simp only [List.length_append, List.length_cons, List.length_nil, brows_len, LIM] <;> omega) | fail) only [E_impl_insTextL1, List.getD_cons_zero, List.getD_cons_succ, DC.bb_b, DC.ii_i, DC.ss_s, DC.ll_sl, bytesRow_eq, brows_app', brows_len, List.length_append, List.length_cons, List.length_nil, LIM, if_true, if_false, Bool.false_eq_true, Out.bindR_ret, Out.andThen_norm, Out.andThenB_ret, Out.andThenB_norm, Out.andThenB_ex, if_pos, Int.toNat_natCast, List.length_map, true_and, and_self, decide_true, b64, b58, b44, b46, b36, b40, b41, b91, b93, b123, b125, b32, b10, bc44, bc58, bc32, bc46, bc123, bc64, bc10, bc125, bc40, bc41, bc91, bc93, bc36, map_getD hi, TInDef.enc_eq, d, c2, hv, wi]
    rw [Int.natCast_zero] at hlp
    simp only [List.length_map] at hz
    simp (disch := first | omega | (simp only [List.length_append, List.length_cons, List.length_nil, brows_len, LIM] <;> omega) | fail) only [E_impl_insText, List.getD_cons_zero, List.getD_cons_succ, DC.bb_b, DC.ii_i, DC.ss_s, DC.ll_sl, bytesRow_eq, brows_app', brows_len, List.length_append, List.length_cons, List.length_nil, LIM, if_true, if_false, Bool.false_eq_true, Out.bindR_ret, Out.andThen_norm, Out.andThenB_ret, Out.andThenB_norm, Out.andThenB_ex, if_pos, Int.toNat_natCast, List.length_map, true_and, and_self, decide_true, b64, b58, b44, b46, b36, b40, b41, b91, b93, b123, b125, b32, b10, bc44, bc58, bc32, bc46, bc123, bc64, bc10, bc125, bc40, bc41, bc91, bc93, bc36, hz, hlp, hJ, Bool.not_true]
    simp
def descT (s : List UInt8) : List UInt8 := if s = [] then [] else [32, 32] ++ (escaped s ++ [10])
def fieldT (v : TFieldDef) : List UInt8 := descT v.desc ++ ([32, 32] ++ (v.name ++ (insT v.args ++ ([58, 32] ++ (typeT v.type'.name v.type'.wraps ++ (dirsT v.dirs ++ [10]))))))
theorem desc_len (s : List UInt8) : (descT s).length ≤ 6 * s.length + 5 := by
  have := escaped_len s
  unfold descT
  split
  · simp
  · simp only [List.length_append, List.length_cons, List.length_nil]; omega
theorem spec_l13SayDesc (s : List UInt8) (hs : s.length ≤ 1048576) (out : List UInt8) (ho : out.length + 6 * s.length + 10 < 1073741824) : r_spec_l13SayDesc [.sl (brows out), .s s] = .ret [.sl (brows (out ++ (descT s ++ [32, 32])))] := by
  have hE := spec_Escaped s hs
  have hl := escaped_len s
  rw [eq_spec_l13SayDesc]
  unfold descT
  by_cases k : s = []
  · have c : (s == ([] : List UInt8)) = true := beq_iff_eq.2 k
    rw [if_pos k]
    simp (disch := first | omega | (simp only [List.length_append, List.length_cons, List.length_nil, brows_len, LIM] <;> omega) | fail) only [E_spec_l13SayDesc, List.getD_cons_zero, List.getD_cons_succ, DC.bb_b, DC.ii_i, DC.ss_s, DC.ll_sl, bytesRow_eq, brows_app', brows_len, List.length_append, List.length_cons, List.length_nil, LIM, if_true, if_false, Bool.false_eq_true, Out.bindR_ret, Out.andThen_norm, Out.andThenB_ret, Out.andThenB_norm, Out.andThenB_ex, if_pos, Int.toNat_natCast, List.length_map, true_and, and_self, decide_true, b64, b58, b44, b46, b36, b40, b41, b91, b93, b123, b125, b32, b10, bc44, bc58, bc32, bc46, bc123, bc64, bc10, bc125, bc40, bc41, bc91, bc93, bc36, c, Bool.not_true]
    simp
  · have c : (s == ([] : List UInt8)) = false := beq_eq_false_iff_ne.2 k
    rw [if_neg k]
    simp (disch := first | omega | (simp only [List.length_append, List.length_cons, List.length_nil, brows_len, LIM] <;> omega) | fail) only [E_spec_l13SayDesc, List.getD_cons_zero, List.getD_cons_succ, DC.bb_b, DC.ii_i, DC.ss_s, DC.ll_sl, bytesRow_eq, brows_app', brows_len, List.length_append, List.length_cons, List.length_nil, LIM, if_true, if_false, Bool.false_eq_true, Out.bindR_ret, Out.andThen_norm, Out.andThenB_ret, Out.andThenB_norm, Out.andThenB_ex, if_pos, Int.toNat_natCast, List.length_map, true_and, and_self, decide_true, b64, b58, b44, b46, b36, b40, b41, b91, b93, b123, b125, b32, b10, bc44, bc58, bc32, bc46, bc123, bc64, bc10, bc125, bc40, bc41, bc91, bc93, bc36, c, hE, Bool.not_false]
    simp
theorem impl_descLine (s : List UInt8) (hs : s.length ≤ 1048576) : r_impl_descLine [.s [32, 32], .s s] = .ret [.s (descT s)] := by
  have hE := impl_Escaped s hs
  have hl := escaped_len s
  rw [eq_impl_descLine]
  unfold descT
  by_cases k : s = []
  · have c : (s == ([] : List UInt8)) = true := beq_iff_eq.2 k
    rw [if_pos k]
    simp only [E_impl_descLine, List.getD_cons_zero, List.getD_cons_succ, DC.bb_b, DC.ii_i, DC.ss_s, DC.ll_sl, c, if_true]
  · have c : (s == ([] : List UInt8)) = false := beq_eq_false_iff_ne.2 k
    rw [if_neg k]
    simp (disch := first | omega | (simp only [List.length_append, List.length_cons, List.length_nil, brows_len, LIM] <;> omega) | fail) only [E_impl_descLine, List.getD_cons_zero, List.getD_cons_succ, DC.bb_b, DC.ii_i, DC.ss_s, DC.ll_sl, bytesRow_eq, brows_app', brows_len, List.length_append, List.length_cons, List.length_nil, LIM, if_true, if_false, Bool.false_eq_true, Out.bindR_ret, Out.andThen_norm, Out.andThenB_ret, Out.andThenB_norm, Out.andThenB_ex, if_pos, Int.toNat_natCast, List.length_map, true_and, and_self, decide_true, b64, b58, b44, b46, b36, b40, b41, b91, b93, b123, b125, b32, b10, bc44, bc58, bc32, bc46, bc123, bc64, bc10, bc125, bc40, bc41, bc91, bc93, bc36, c, hE, Bool.not_false]
    simp
theorem field_facts {v : TFieldDef} (h : fieldOk v = true) : typeOk v.type'.name v.type'.wraps = true ∧ insOk v.args = true ∧ dirsOk v.dirs = true ∧ v.type'.wraps.length ≤ 8 := by
  simp only [fieldOk, constsOk, typeOk, Bool.and_eq_true, decide_eq_true_eq] at h ⊢
  exact ⟨h.2.2.1, h.2.2.2.1, h.2.2.2.2.1, h.2.2.1.2.1⟩
theorem spec_l13SayField (v : TFieldDef) (hw : wtL v.enc ≤ 1048576) (hg : fieldOk v = true) (out : List UInt8) (ho : out.length + 40 * wtL v.enc + 100 < 1073741824) : r_spec_l13SayField [.sl (brows out), .s v.name, .s v.desc, .sl (v.args.map TInDef.enc), .s v.type'.name, .s v.type'.wraps, .sl (v.dirs.map TDir.enc)] = .ret [.sl (brows (out ++ fieldT v))] := by
  obtain ⟨g1, g2, g3, g4⟩ := field_facts hg
  rw [field_wt] at hw ho
  have l1 := desc_len v.desc
  have l2 := type_len v.type'.wraps v.type'.name
  have l3 := ins_len v.args g2
  have l4 := dirs_len v.dirs
  have hDe := spec_l13SayDesc v.desc (by omega) out (by omega)
  have hT := spec_TypeText v.type'.name v.type'.wraps (by omega) g1
  have hI := spec_l13SayIns v.args (by omega) g2
  have hD := spec_l10SayDirs v.dirs (by omega) g3
  rw [eq_spec_l13SayField]
  unfold fieldT
  simp (disch := first | omega | (simp only [List.length_append, List.length_cons, List.length_nil, brows_len, LIM] <;> omega) | fail) only [E_spec_l13SayField, List.getD_cons_zero, List.getD_cons_succ, DC.bb_b, DC.ii_i, DC.ss_s, DC.ll_sl, bytesRow_eq, brows_app', brows_len, List.length_append, List.length_cons, List.length_nil, LIM, if_true, if_false, Bool.false_eq_true, Out.bindR_ret, Out.andThen_norm, Out.andThenB_ret, Out.andThenB_norm, Out.andThenB_ex, if_pos, Int.toNat_natCast, List.length_map, true_and, and_self, decide_true, b64, b58, b44, b46, b36, b40, b41, b91, b93, b123, b125, b32, b10, bc44, bc58, bc32, bc46, bc123, bc64, bc10, bc125, bc40, bc41, bc91, bc93, bc36, hDe, hT, hI, hD]
  simp
noncomputable def fieldText (v : TFieldDef) : List UInt8 := if fieldOk v = true then fieldT v else []
theorem spec_FieldText (v : TFieldDef) (hw : wtL v.enc ≤ 1048576) : r_spec_FieldText [.s v.name, .s v.desc, .sl (v.args.map TInDef.enc), .s v.type'.name, .s v.type'.wraps, .sl (v.dirs.map TDir.enc)] = .ret [.s (fieldText v)] := by
  have hk := spec_l13Field v hw
  rw [eq_spec_FieldText]
  unfold fieldText
  cases hg : fieldOk v with
  | false => rw [hg] at hk; simp only [E_spec_FieldText, List.getD_cons_zero, List.getD_cons_succ, DC.bb_b, DC.ii_i, DC.ss_s, DC.ll_sl, hk, Out.bindR_ret, Bool.not_false, if_true, Bool.false_eq_true, if_false]
  | true =>
    have hs : r_spec_l13SayField [.sl [], .s v.name, .s v.desc, .sl (v.args.map TInDef.enc), .s v.type'.name, .s v.type'.wraps, .sl (v.dirs.map TDir.enc)] = .ret [.sl (brows (fieldT v))] := spec_l13SayField v hw hg [] (by simp only [List.length_nil]; omega)
    rw [hg] at hk
    simp only [E_spec_FieldText, List.getD_cons_zero, List.getD_cons_succ, DC.bb_b, DC.ii_i, DC.ss_s, DC.ll_sl, hk, hs, Out.bindR_ret, Bool.not_true, if_true, Bool.false_eq_true, if_false, rowBytes_rows]
set_option maxHeartbeats 8000000 in
theorem impl_FieldText (v : TFieldDef) (hw : wtL v.enc ≤ 1048576) : r_impl_FieldText [.s v.name, .s v.desc, .sl (v.args.map TInDef.enc), .s v.type'.name, .s v.type'.wraps, .sl (v.dirs.map TDir.enc)] = .ret [.s (fieldText v)] := by
  have hk := impl_fieldOk v hw
  rw [eq_impl_FieldText]
  unfold fieldText
  cases hg : fieldOk v with
  | false => rw [hg] at hk; simp only [E_impl_FieldText, List.getD_cons_zero, List.getD_cons_succ, DC.bb_b, DC.ii_i, DC.ss_s, DC.ll_sl, hk, Out.bindR_ret, Bool.not_false, if_true, Bool.false_eq_true, if_false]
  | true =>
    obtain ⟨g1, g2, g3, g4⟩ := field_facts hg
    rw [field_wt] at hw
    have l1 := desc_len v.desc
    have l2 := type_len v.type'.wraps v.type'.name
    have l3 := ins_len v.args g2
    have l4 := dirs_len v.dirs
    have hDe := impl_descLine v.desc (by omega)
    have hT := impl_TypeText v.type'.name v.type'.wraps (by omega) g1
    have hI := impl_insText v.args (by omega) g2
    have hD := impl_DirsText v.dirs (by omega) g3
    rw [hg] at hk
    unfold fieldT
    simp (disch := first | omega | (simp only [List.length_append, List.length_cons, List.length_nil, brows_len, LIM] <;> omega) | fail) only [E_impl_FieldText, List.getD_cons_zero, List.getD_cons_succ, DC.bb_b, DC.ii_i, DC.ss_s, DC.ll_sl, bytesRow_eq, brows_app', brows_len, List.length_append, List.length_cons, List.length_nil, LIM, if_true, if_false, Bool.false_eq_true, Out.bindR_ret, Out.andThen_norm, Out.andThenB_ret, Out.andThenB_norm, Out.andThenB_ex, if_pos, Int.toNat_natCast, List.length_map, true_and, and_self, decide_true, b64, b58, b44, b46, b36, b40, b41, b91, b93, b123, b125, b32, b10, bc44, bc58, bc32, bc46, bc123, bc64, bc10, bc125, bc40, bc41, bc91, bc93, bc36, hk, hDe, hT, hI, hD, Bool.not_true]
    simp
theorem szS_String (ns : List (List UInt8)) (ok : (DC.sl (ns.map S1)).ok) (left : Int) (h0 : 0 ≤ left) (h1 : left ≤ 1048576) : r_laws_szStringS [.sl (ns.map S1), .i left] = .ret [.i (szR left (DC.wt (.sl (ns.map S1))))] := by
  rw [DC.ok, List.length_map] at ok
  obtain ⟨hl, ok⟩ := ok
  rw [eq_laws_szStringS]
  simp only [E_laws_szStringS, List.getD_cons_zero, List.getD_cons_succ, DC.bb_b, DC.ii_i, DC.ss_s, DC.ll_sl]
  refine szS_all hl (fun i hi left h0 h1 => ?_) (fun left => ?_) h0 h1
  · have hn := okV_mem ok (S1 ns[i]) (List.mem_map_of_mem (List.getElem_mem hi))
    simp only [S1, okL, DC.ok] at hn
    have hw : IntKind.i64.wrap (left - (ns[i].length : Int)) = left - (ns[i].length : Int) := wrap64 (by omega) (by omega)
    have hc1 : (i : Int) < (ns.length : Int) := by omega
    simp only [E_laws_szStringSL1, List.getD_cons_zero, List.getD_cons_succ, DC.bb_b, DC.ii_i, DC.ss_s, DC.ll_sl, Int.toNat_natCast, List.length_map, map_getD hi, S1, wtL, DC.wt, hw]
    by_cases hc : left < (ns[i].length : Int)
    · simp [hi, hc1, hc, show left - (ns[i].length : Int) < 0 by omega]
    · simp [hi, hc1, hc, show ¬ left - (ns[i].length : Int) < 0 by omega, wrap_succ hi hl]
  · simp [E_laws_szStringSL1]
theorem toS_String (ns : List (List UInt8)) (hl : ns.length ≤ 1048576) : r_laws_toStringS [.sl (ns.map S1)] = .ret [.sl (ns.map S1)] := by
  rw [eq_laws_toStringS]
  simp only [E_laws_toStringS, List.getD_cons_zero, List.getD_cons_succ, DC.bb_b, DC.ii_i, DC.ss_s, DC.ll_sl]
  rw [if_pos ⟨by omega, by rw [List.length_map]; exact lim_of hl, trivial, by omega, by omega⟩, Int.toNat_natCast, List.length_map, show (0 : Int) = ((0 : Nat) : Int) from rfl, toS_loop hl (fun i hi cur h1 h2 => ?_) (fun cur => ?_)]
  · rfl
  · have hc1 : (i : Int) < (ns.length : Int) := by omega
    simp only [E_laws_toStringSL1, List.getD_cons_zero, List.getD_cons_succ, DC.bb_b, DC.ii_i, DC.ss_s, DC.ll_sl, Int.toNat_natCast, List.length_map, map_getD hi, h1, h2, S1]
    simp [hi, hc1, wrap_succ hi (show ns.length ≤ 9223372036854775807 by omega), setRunD]
  · simp [E_laws_toStringSL1]
theorem eqS_String (ns : List (List UInt8)) (hl : ns.length ≤ 1048576) : r_laws_eqStringS [.sl (ns.map S1), .sl (ns.map S1)] = .ret [.b true] := by
  rw [eq_laws_eqStringS]
  simp only [E_laws_eqStringS, List.getD_cons_zero, List.getD_cons_succ, DC.bb_b, DC.ii_i, DC.ss_s, DC.ll_sl]
  refine eqS_all (fun i hi => ?_) ?_
  · rw [List.length_map] at hi
    have hc1 : (i : Int) < (ns.length : Int) := by omega
    simp only [E_laws_eqStringSL1, List.getD_cons_zero, List.getD_cons_succ, DC.bb_b, DC.ii_i, DC.ss_s, DC.ll_sl, Int.toNat_natCast, List.length_map, map_getD hi, S1]
    simp [hi, hc1, wrap_succ hi (show ns.length ≤ 9223372036854775807 by omega)]
  · simp [E_laws_eqStringSL1]
theorem wsum_Value (v : TValue) : wtL (TValue.enc v) = v.text.length + DC.wt (.sl (v.items.map TValue.enc)) + DC.wt (.sl (v.names.map S1)) := by
  simp only [TValue.enc_eq, wtL, DC.wt]
  try omega
theorem szS_Value' (vs : List TValue) (hs : ∀ v ∈ vs, okL (TValue.enc v) → ∀ left : Int, 0 ≤ left → left ≤ 1048576 → r_laws_szValue [.i v.kind, .s v.text, .sl (v.items.map TValue.enc), .sl (v.names.map S1), .i left] = .ret [.i (szR left (wtL (TValue.enc v)))]) (ok : (DC.sl (vs.map TValue.enc)).ok) (left : Int) (h0 : 0 ≤ left) (h1 : left ≤ 1048576) : r_laws_szValueS [.sl (vs.map TValue.enc), .i left] = .ret [.i (szR left (DC.wt (.sl (vs.map TValue.enc))))] := by
  rw [DC.ok, List.length_map] at ok
  obtain ⟨hl, ok⟩ := ok
  rw [eq_laws_szValueS]
  simp only [E_laws_szValueS, List.getD_cons_zero, List.getD_cons_succ, DC.bb_b, DC.ii_i, DC.ss_s, DC.ll_sl]
  refine szS_all hl (fun i hi left h0 h1 => ?_) (fun left => ?_) h0 h1
  · have key := hs vs[i] (List.getElem_mem hi) (okV_mem ok _ (List.mem_map_of_mem (List.getElem_mem hi))) left h0 h1
    generalize wtL (TValue.enc vs[i]) = w at key ⊢
    have hc1 : (i : Int) < (vs.length : Int) := by omega
    simp only [E_laws_szValueSL1, List.getD_cons_zero, List.getD_cons_succ, DC.bb_b, DC.ii_i, DC.ss_s, DC.ll_sl, Int.toNat_natCast, List.length_map, map_getD hi, TValue.enc_eq, key, Out.bindR_ret]
    by_cases hc : left < (w : Int)
    · simp [hi, hc1, hc, szR_lt hc]
    · simp [hi, hc1, hc, szR_ge hc, show ¬ left - (w : Int) < 0 by omega, wrap_succ hi hl]
  · simp [E_laws_szValueSL1]
theorem sz_Value (v : TValue) : okL (TValue.enc v) → ∀ left : Int, 0 ≤ left → left ≤ 1048576 → r_laws_szValue [.i v.kind, .s v.text, .sl (v.items.map TValue.enc), .sl (v.names.map S1), .i left] = .ret [.i (szR left (wtL (TValue.enc v)))] := by
  induction v using TValue.ind with | h v ih =>
  intro ok left h0 h1
  rw [TValue.enc_eq] at ok
  simp only [okL] at ok
  rw [eq_laws_szValue]
  simp only [E_laws_szValue, List.getD_cons_zero, List.getD_cons_succ, DC.bb_b, DC.ii_i, DC.ss_s, DC.ll_sl]
  rw [wsum_Value]
  have b0 : v.text.length ≤ 9223372036854775807 := by simpa only [DC.ok] using ok.2.1
  rw [show IntKind.i64.wrap (left - (v.text.length : Int)) = left - (v.text.length : Int) from wrap64 (by omega) (by omega)]
  by_cases c0 : left < ((v.text.length : Nat) : Int)
  · have c0' : left - ((v.text.length : Nat) : Int) < 0 := by omega
    simp only [c0', decide_true, if_true]
    try rw [szR_lt (by omega)]
  have c0' : ¬ left - ((v.text.length : Nat) : Int) < 0 := by omega
  simp only [c0', decide_false, Bool.false_eq_true, if_false]
  rw [szS_Value' v.items (fun x hx => ih x hx) ok.2.2.1 ((left - ((v.text.length : Nat) : Int))) (by omega) (by omega)]
  simp only [Out.bindR_ret, List.getD_cons_zero, List.getD_cons_succ, DC.bb_b, DC.ii_i, DC.ss_s, DC.ll_sl]
  by_cases c1 : (left - ((v.text.length : Nat) : Int)) < ((DC.wt (.sl (v.items.map TValue.enc)) : Nat) : Int)
  · rw [szR_lt c1]
    simp only [show (-1 : Int) < 0 by omega, decide_true, if_true]
    try rw [szR_lt (by omega)]
  rw [szR_ge c1]
  have c1' : ¬ (left - ((v.text.length : Nat) : Int)) - ((DC.wt (.sl (v.items.map TValue.enc)) : Nat) : Int) < 0 := by omega
  simp only [c1', decide_false, Bool.false_eq_true, if_false]
  rw [szS_String v.names ok.2.2.2.1 (((left - ((v.text.length : Nat) : Int)) - ((DC.wt (.sl (v.items.map TValue.enc)) : Nat) : Int))) (by omega) (by omega)]
  simp only [Out.bindR_ret, List.getD_cons_zero, List.getD_cons_succ, DC.bb_b, DC.ii_i, DC.ss_s, DC.ll_sl]
  by_cases c2 : ((left - ((v.text.length : Nat) : Int)) - ((DC.wt (.sl (v.items.map TValue.enc)) : Nat) : Int)) < ((DC.wt (.sl (v.names.map S1)) : Nat) : Int)
  · rw [szR_lt c2]
    simp only [show (-1 : Int) < 0 by omega, decide_true, if_true]
    try rw [szR_lt (by omega)]
  rw [szR_ge c2]
  have c2' : ¬ ((left - ((v.text.length : Nat) : Int)) - ((DC.wt (.sl (v.items.map TValue.enc)) : Nat) : Int)) - ((DC.wt (.sl (v.names.map S1)) : Nat) : Int) < 0 := by omega
  simp only [c2', decide_false, Bool.false_eq_true, if_false]
  first
  | done
  | rw [show szR left (v.text.length + DC.wt (.sl (v.items.map TValue.enc)) + DC.wt (.sl (v.names.map S1))) = (((left - ((v.text.length : Nat) : Int)) - ((DC.wt (.sl (v.items.map TValue.enc)) : Nat) : Int)) - ((DC.wt (.sl (v.names.map S1)) : Nat) : Int)) from (szR_ge (by omega)).trans (by omega)]
theorem toS_Value' (vs : List TValue) (hs : ∀ v ∈ vs, wtL (TValue.enc v) ≤ 1048576 → r_laws_toValue [.i v.kind, .s v.text, .sl (v.items.map TValue.enc), .sl (v.names.map S1)] = .ret (TValue.enc v)) (hw : DC.wt (.sl (vs.map TValue.enc)) ≤ 1048576) : r_laws_toValueS [.sl (vs.map TValue.enc)] = .ret [.sl (vs.map TValue.enc)] := by
  rw [DC.wt, List.length_map] at hw
  have hl : vs.length ≤ 1048576 := by omega
  rw [eq_laws_toValueS]
  simp only [E_laws_toValueS, List.getD_cons_zero, List.getD_cons_succ, DC.bb_b, DC.ii_i, DC.ss_s, DC.ll_sl]
  rw [if_pos ⟨by omega, by rw [List.length_map]; exact lim_of hl, trivial, by omega, by omega⟩, Int.toNat_natCast, List.length_map, show (0 : Int) = ((0 : Nat) : Int) from rfl, toS_loop hl (fun i hi cur h1 h2 => ?_) (fun cur => ?_)]
  · rfl
  · have key := hs vs[i] (List.getElem_mem hi) (by have := wtV_mem (List.mem_map_of_mem (f := TValue.enc) (List.getElem_mem hi)); omega)
    have hc1 : (i : Int) < (vs.length : Int) := by omega
    simp only [E_laws_toValueSL1, List.getD_cons_zero, List.getD_cons_succ, DC.bb_b, DC.ii_i, DC.ss_s, DC.ll_sl, Int.toNat_natCast, List.length_map, map_getD hi, h1, h2, TValue.enc_eq] at key ⊢
    simp only [key, List.getD_cons_zero, List.getD_cons_succ, DC.bb_b, DC.ii_i, DC.ss_s, DC.ll_sl, Out.bindR_ret]
    simp [hi, hc1, wrap_succ hi (show vs.length ≤ 9223372036854775807 by omega), setRunD]
  · simp [E_laws_toValueSL1]
theorem to_Value (v : TValue) : wtL (TValue.enc v) ≤ 1048576 → r_laws_toValue [.i v.kind, .s v.text, .sl (v.items.map TValue.enc), .sl (v.names.map S1)] = .ret (TValue.enc v) := by
  induction v using TValue.ind with | h v ih =>
  intro hw
  rw [wsum_Value] at hw
  rw [eq_laws_toValue]
  simp only [E_laws_toValue, List.getD_cons_zero, List.getD_cons_succ, DC.bb_b, DC.ii_i, DC.ss_s, DC.ll_sl]
  rw [toS_Value' v.items (fun x hx => ih x hx) (by omega)]
  simp only [Out.bindR_ret, List.getD_cons_zero, List.getD_cons_succ, DC.bb_b, DC.ii_i, DC.ss_s, DC.ll_sl]
  rw [toS_String v.names (by have h := hw; simp only [DC.wt, List.length_map] at h; omega)]
  simp only [Out.bindR_ret, List.getD_cons_zero, List.getD_cons_succ, DC.bb_b, DC.ii_i, DC.ss_s, DC.ll_sl]
  rw [TValue.enc_eq]
theorem eqS_Value' (vs : List TValue) (hs : ∀ v ∈ vs, wtL (TValue.enc v) ≤ 1048576 → r_laws_eqValue [.i v.kind, .s v.text, .sl (v.items.map TValue.enc), .sl (v.names.map S1), .i v.kind, .s v.text, .sl (v.items.map TValue.enc), .sl (v.names.map S1)] = .ret [.b true]) (hw : DC.wt (.sl (vs.map TValue.enc)) ≤ 1048576) : r_laws_eqValueS [.sl (vs.map TValue.enc), .sl (vs.map TValue.enc)] = .ret [.b true] := by
  rw [DC.wt, List.length_map] at hw
  have hl : vs.length ≤ 1048576 := by omega
  rw [eq_laws_eqValueS]
  simp only [E_laws_eqValueS, List.getD_cons_zero, List.getD_cons_succ, DC.bb_b, DC.ii_i, DC.ss_s, DC.ll_sl]
  refine eqS_all (fun i hi => ?_) ?_
  · rw [List.length_map] at hi
    have key := hs vs[i] (List.getElem_mem hi) (by have := wtV_mem (List.mem_map_of_mem (f := TValue.enc) (List.getElem_mem hi)); omega)
    have hc1 : (i : Int) < (vs.length : Int) := by omega
    simp only [E_laws_eqValueSL1, List.getD_cons_zero, List.getD_cons_succ, DC.bb_b, DC.ii_i, DC.ss_s, DC.ll_sl, Int.toNat_natCast, List.length_map, map_getD hi, TValue.enc_eq] at key ⊢
    simp only [key, List.getD_cons_zero, List.getD_cons_succ, DC.bb_b, DC.ii_i, DC.ss_s, DC.ll_sl, Out.bindR_ret]
    simp [hi, hc1, wrap_succ hi (show vs.length ≤ 9223372036854775807 by omega)]
  · simp [E_laws_eqValueSL1]
theorem eq_Value (v : TValue) : wtL (TValue.enc v) ≤ 1048576 → r_laws_eqValue [.i v.kind, .s v.text, .sl (v.items.map TValue.enc), .sl (v.names.map S1), .i v.kind, .s v.text, .sl (v.items.map TValue.enc), .sl (v.names.map S1)] = .ret [.b true] := by
  induction v using TValue.ind with | h v ih =>
  intro hw
  rw [wsum_Value] at hw
  rw [eq_laws_eqValue]
  simp only [E_laws_eqValue, List.getD_cons_zero, List.getD_cons_succ, DC.bb_b, DC.ii_i, DC.ss_s, DC.ll_sl, bne_self_eq_false, beq_self_eq_true, Bool.not_true, Bool.false_eq_true, if_false]
  rw [eqS_Value' v.items (fun x hx => ih x hx) (by omega)]
  simp only [Out.bindR_ret, List.getD_cons_zero, List.getD_cons_succ, DC.bb_b, DC.ii_i, DC.ss_s, DC.ll_sl, bne_self_eq_false, beq_self_eq_true, Bool.not_true, Bool.false_eq_true, if_false]
  rw [eqS_String v.names (by have h := hw; simp only [DC.wt, List.length_map] at h; omega)]
  simp only [Out.bindR_ret, List.getD_cons_zero, List.getD_cons_succ, DC.bb_b, DC.ii_i, DC.ss_s, DC.ll_sl, bne_self_eq_false, beq_self_eq_true, Bool.not_true, Bool.false_eq_true, if_false]
theorem wsum_Type (v : TType) : wtL (TType.enc v) = v.name.length + v.wraps.length := by
  simp only [TType.enc_eq, wtL, DC.wt]
  try omega
theorem sz_Type (v : TType) : okL (TType.enc v) → ∀ left : Int, 0 ≤ left → left ≤ 1048576 → r_laws_szType [.s v.name, .s v.wraps, .i left] = .ret [.i (szR left (wtL (TType.enc v)))] := by
  intro ok left h0 h1
  rw [TType.enc_eq] at ok
  simp only [okL] at ok
  rw [eq_laws_szType]
  simp only [E_laws_szType, List.getD_cons_zero, List.getD_cons_succ, DC.bb_b, DC.ii_i, DC.ss_s, DC.ll_sl]
  rw [wsum_Type]
  have b0 : v.name.length ≤ 9223372036854775807 := by simpa only [DC.ok] using ok.1
  have b1 : v.wraps.length ≤ 9223372036854775807 := by simpa only [DC.ok] using ok.2.1
  rw [show IntKind.i64.wrap (left - (v.name.length : Int)) = left - (v.name.length : Int) from wrap64 (by omega) (by omega)]
  by_cases c0 : left < ((v.name.length : Nat) : Int)
  · have c0' : left - ((v.name.length : Nat) : Int) < 0 := by omega
    simp only [c0', decide_true, if_true]
    try rw [szR_lt (by omega)]
  have c0' : ¬ left - ((v.name.length : Nat) : Int) < 0 := by omega
  simp only [c0', decide_false, Bool.false_eq_true, if_false]
  rw [show IntKind.i64.wrap ((left - ((v.name.length : Nat) : Int)) - (v.wraps.length : Int)) = (left - ((v.name.length : Nat) : Int)) - (v.wraps.length : Int) from wrap64 (by omega) (by omega)]
  by_cases c1 : (left - ((v.name.length : Nat) : Int)) < ((v.wraps.length : Nat) : Int)
  · have c1' : (left - ((v.name.length : Nat) : Int)) - ((v.wraps.length : Nat) : Int) < 0 := by omega
    simp only [c1', decide_true, if_true]
    try rw [szR_lt (by omega)]
  have c1' : ¬ (left - ((v.name.length : Nat) : Int)) - ((v.wraps.length : Nat) : Int) < 0 := by omega
  simp only [c1', decide_false, Bool.false_eq_true, if_false]
  first
  | done
  | rw [show szR left (v.name.length + v.wraps.length) = ((left - ((v.name.length : Nat) : Int)) - ((v.wraps.length : Nat) : Int)) from (szR_ge (by omega)).trans (by omega)]
theorem to_Type (v : TType) : wtL (TType.enc v) ≤ 1048576 → r_laws_toType [.s v.name, .s v.wraps] = .ret (TType.enc v) := by
  intro hw
  rw [wsum_Type] at hw
  rw [eq_laws_toType]
  simp only [E_laws_toType, List.getD_cons_zero, List.getD_cons_succ, DC.bb_b, DC.ii_i, DC.ss_s, DC.ll_sl]
  rw [TType.enc_eq]
theorem eq_Type (v : TType) : wtL (TType.enc v) ≤ 1048576 → r_laws_eqType [.s v.name, .s v.wraps, .s v.name, .s v.wraps] = .ret [.b true] := by
  intro hw
  rw [wsum_Type] at hw
  rw [eq_laws_eqType]
  simp only [E_laws_eqType, List.getD_cons_zero, List.getD_cons_succ, DC.bb_b, DC.ii_i, DC.ss_s, DC.ll_sl, bne_self_eq_false, beq_self_eq_true, Bool.not_true, Bool.false_eq_true, if_false]
theorem wsum_Arg (v : TArg) : wtL (TArg.enc v) = v.name.length + wtL (TValue.enc v.value) := by
  simp only [TArg.enc_eq, wtL, DC.wt, TValue.enc_eq]
  try omega
theorem sz_Arg (v : TArg) : okL (TArg.enc v) → ∀ left : Int, 0 ≤ left → left ≤ 1048576 → r_laws_szArg [.s v.name, .i v.value.kind, .s v.value.text, .sl (v.value.items.map TValue.enc), .sl (v.value.names.map S1), .i left] = .ret [.i (szR left (wtL (TArg.enc v)))] := by
  intro ok left h0 h1
  rw [TArg.enc_eq] at ok
  simp only [okL] at ok
  rw [eq_laws_szArg]
  simp only [E_laws_szArg, List.getD_cons_zero, List.getD_cons_succ, DC.bb_b, DC.ii_i, DC.ss_s, DC.ll_sl]
  rw [wsum_Arg]
  have b0 : v.name.length ≤ 9223372036854775807 := by simpa only [DC.ok] using ok.1
  rw [show IntKind.i64.wrap (left - (v.name.length : Int)) = left - (v.name.length : Int) from wrap64 (by omega) (by omega)]
  by_cases c0 : left < ((v.name.length : Nat) : Int)
  · have c0' : left - ((v.name.length : Nat) : Int) < 0 := by omega
    simp only [c0', decide_true, if_true]
    try rw [szR_lt (by omega)]
  have c0' : ¬ left - ((v.name.length : Nat) : Int) < 0 := by omega
  simp only [c0', decide_false, Bool.false_eq_true, if_false]
  rw [sz_Value v.value (by rw [TValue.enc_eq]; simp only [okL]; exact ⟨ok.2.1, ok.2.2.1, ok.2.2.2.1, ok.2.2.2.2.1, trivial⟩) ((left - ((v.name.length : Nat) : Int))) (by omega) (by omega)]
  simp only [Out.bindR_ret, List.getD_cons_zero, List.getD_cons_succ, DC.bb_b, DC.ii_i, DC.ss_s, DC.ll_sl]
  by_cases c1 : (left - ((v.name.length : Nat) : Int)) < ((wtL (TValue.enc v.value) : Nat) : Int)
  · rw [szR_lt c1]
    simp only [show (-1 : Int) < 0 by omega, decide_true, if_true]
    try rw [szR_lt (by omega)]
  rw [szR_ge c1]
  have c1' : ¬ (left - ((v.name.length : Nat) : Int)) - ((wtL (TValue.enc v.value) : Nat) : Int) < 0 := by omega
  simp only [c1', decide_false, Bool.false_eq_true, if_false]
  first
  | done
  | rw [show szR left (v.name.length + wtL (TValue.enc v.value)) = ((left - ((v.name.length : Nat) : Int)) - ((wtL (TValue.enc v.value) : Nat) : Int)) from (szR_ge (by omega)).trans (by omega)]
theorem szS_Arg' (vs : List TArg) (hs : ∀ v ∈ vs, okL (TArg.enc v) → ∀ left : Int, 0 ≤ left → left ≤ 1048576 → r_laws_szArg [.s v.name, .i v.value.kind, .s v.value.text, .sl (v.value.items.map TValue.enc), .sl (v.value.names.map S1), .i left] = .ret [.i (szR left (wtL (TArg.enc v)))]) (ok : (DC.sl (vs.map TArg.enc)).ok) (left : Int) (h0 : 0 ≤ left) (h1 : left ≤ 1048576) : r_laws_szArgS [.sl (vs.map TArg.enc), .i left] = .ret [.i (szR left (DC.wt (.sl (vs.map TArg.enc))))] := by
  rw [DC.ok, List.length_map] at ok
  obtain ⟨hl, ok⟩ := ok
  rw [eq_laws_szArgS]
  simp only [E_laws_szArgS, List.getD_cons_zero, List.getD_cons_succ, DC.bb_b, DC.ii_i, DC.ss_s, DC.ll_sl]
  refine szS_all hl (fun i hi left h0 h1 => ?_) (fun left => ?_) h0 h1
  · have key := hs vs[i] (List.getElem_mem hi) (okV_mem ok _ (List.mem_map_of_mem (List.getElem_mem hi))) left h0 h1
    generalize wtL (TArg.enc vs[i]) = w at key ⊢
    have hc1 : (i : Int) < (vs.length : Int) := by omega
    simp only [E_laws_szArgSL1, List.getD_cons_zero, List.getD_cons_succ, DC.bb_b, DC.ii_i, DC.ss_s, DC.ll_sl, Int.toNat_natCast, List.length_map, map_getD hi, TArg.enc_eq, key, Out.bindR_ret]
    by_cases hc : left < (w : Int)
    · simp [hi, hc1, hc, szR_lt hc]
    · simp [hi, hc1, hc, szR_ge hc, show ¬ left - (w : Int) < 0 by omega, wrap_succ hi hl]
  · simp [E_laws_szArgSL1]
theorem szS_Arg (vs : List TArg) (ok : (DC.sl (vs.map TArg.enc)).ok) (left : Int) (h0 : 0 ≤ left) (h1 : left ≤ 1048576) : r_laws_szArgS [.sl (vs.map TArg.enc), .i left] = .ret [.i (szR left (DC.wt (.sl (vs.map TArg.enc))))] := szS_Arg' vs (fun v _ => sz_Arg v) ok left h0 h1
theorem to_Arg (v : TArg) : wtL (TArg.enc v) ≤ 1048576 → r_laws_toArg [.s v.name, .i v.value.kind, .s v.value.text, .sl (v.value.items.map TValue.enc), .sl (v.value.names.map S1)] = .ret (TArg.enc v) := by
  intro hw
  rw [wsum_Arg] at hw
  rw [eq_laws_toArg]
  simp only [E_laws_toArg, List.getD_cons_zero, List.getD_cons_succ, DC.bb_b, DC.ii_i, DC.ss_s, DC.ll_sl]
  rw [to_Value v.value (by omega)]
  simp only [Out.bindR_ret, TValue.enc_eq, List.getD_cons_zero, List.getD_cons_succ, DC.bb_b, DC.ii_i, DC.ss_s, DC.ll_sl]
  rw [TArg.enc_eq]
theorem toS_Arg' (vs : List TArg) (hs : ∀ v ∈ vs, wtL (TArg.enc v) ≤ 1048576 → r_laws_toArg [.s v.name, .i v.value.kind, .s v.value.text, .sl (v.value.items.map TValue.enc), .sl (v.value.names.map S1)] = .ret (TArg.enc v)) (hw : DC.wt (.sl (vs.map TArg.enc)) ≤ 1048576) : r_laws_toArgS [.sl (vs.map TArg.enc)] = .ret [.sl (vs.map TArg.enc)] := by
  rw [DC.wt, List.length_map] at hw
  have hl : vs.length ≤ 1048576 := by omega
  rw [eq_laws_toArgS]
  simp only [E_laws_toArgS, List.getD_cons_zero, List.getD_cons_succ, DC.bb_b, DC.ii_i, DC.ss_s, DC.ll_sl]
  rw [if_pos ⟨by omega, by rw [List.length_map]; exact lim_of hl, trivial, by omega, by omega⟩, Int.toNat_natCast, List.length_map, show (0 : Int) = ((0 : Nat) : Int) from rfl, toS_loop hl (fun i hi cur h1 h2 => ?_) (fun cur => ?_)]
  · rfl
  · have key := hs vs[i] (List.getElem_mem hi) (by have := wtV_mem (List.mem_map_of_mem (f := TArg.enc) (List.getElem_mem hi)); omega)
    have hc1 : (i : Int) < (vs.length : Int) := by omega
    simp only [E_laws_toArgSL1, List.getD_cons_zero, List.getD_cons_succ, DC.bb_b, DC.ii_i, DC.ss_s, DC.ll_sl, Int.toNat_natCast, List.length_map, map_getD hi, h1, h2, TArg.enc_eq] at key ⊢
    simp only [key, List.getD_cons_zero, List.getD_cons_succ, DC.bb_b, DC.ii_i, DC.ss_s, DC.ll_sl, Out.bindR_ret]
    simp [hi, hc1, wrap_succ hi (show vs.length ≤ 9223372036854775807 by omega), setRunD]
  · simp [E_laws_toArgSL1]
theorem toS_Arg (vs : List TArg) (hw : DC.wt (.sl (vs.map TArg.enc)) ≤ 1048576) : r_laws_toArgS [.sl (vs.map TArg.enc)] = .ret [.sl (vs.map TArg.enc)] := toS_Arg' vs (fun v _ => to_Arg v) hw
theorem eq_Arg (v : TArg) : wtL (TArg.enc v) ≤ 1048576 → r_laws_eqArg [.s v.name, .i v.value.kind, .s v.value.text, .sl (v.value.items.map TValue.enc), .sl (v.value.names.map S1), .s v.name, .i v.value.kind, .s v.value.text, .sl (v.value.items.map TValue.enc), .sl (v.value.names.map S1)] = .ret [.b true] := by
  intro hw
  rw [wsum_Arg] at hw
  rw [eq_laws_eqArg]
  simp only [E_laws_eqArg, List.getD_cons_zero, List.getD_cons_succ, DC.bb_b, DC.ii_i, DC.ss_s, DC.ll_sl, bne_self_eq_false, beq_self_eq_true, Bool.not_true, Bool.false_eq_true, if_false]
  rw [eq_Value v.value (by omega)]
  simp only [Out.bindR_ret, List.getD_cons_zero, List.getD_cons_succ, DC.bb_b, DC.ii_i, DC.ss_s, DC.ll_sl, bne_self_eq_false, beq_self_eq_true, Bool.not_true, Bool.false_eq_true, if_false]
theorem eqS_Arg' (vs : List TArg) (hs : ∀ v ∈ vs, wtL (TArg.enc v) ≤ 1048576 → r_laws_eqArg [.s v.name, .i v.value.kind, .s v.value.text, .sl (v.value.items.map TValue.enc), .sl (v.value.names.map S1), .s v.name, .i v.value.kind, .s v.value.text, .sl (v.value.items.map TValue.enc), .sl (v.value.names.map S1)] = .ret [.b true]) (hw : DC.wt (.sl (vs.map TArg.enc)) ≤ 1048576) : r_laws_eqArgS [.sl (vs.map TArg.enc), .sl (vs.map TArg.enc)] = .ret [.b true] := by
  rw [DC.wt, List.length_map] at hw
  have hl : vs.length ≤ 1048576 := by omega
  rw [eq_laws_eqArgS]
  simp only [E_laws_eqArgS, List.getD_cons_zero, List.getD_cons_succ, DC.bb_b, DC.ii_i, DC.ss_s, DC.ll_sl]
  refine eqS_all (fun i hi => ?_) ?_
  · rw [List.length_map] at hi
    have key := hs vs[i] (List.getElem_mem hi) (by have := wtV_mem (List.mem_map_of_mem (f := TArg.enc) (List.getElem_mem hi)); omega)
    have hc1 : (i : Int) < (vs.length : Int) := by omega
    simp only [E_laws_eqArgSL1, List.getD_cons_zero, List.getD_cons_succ, DC.bb_b, DC.ii_i, DC.ss_s, DC.ll_sl, Int.toNat_natCast, List.length_map, map_getD hi, TArg.enc_eq] at key ⊢
    simp only [key, List.getD_cons_zero, List.getD_cons_succ, DC.bb_b, DC.ii_i, DC.ss_s, DC.ll_sl, Out.bindR_ret]
    simp [hi, hc1, wrap_succ hi (show vs.length ≤ 9223372036854775807 by omega)]
  · simp [E_laws_eqArgSL1]
theorem eqS_Arg (vs : List TArg) (hw : DC.wt (.sl (vs.map TArg.enc)) ≤ 1048576) : r_laws_eqArgS [.sl (vs.map TArg.enc), .sl (vs.map TArg.enc)] = .ret [.b true] := eqS_Arg' vs (fun v _ => eq_Arg v) hw
theorem wsum_Dir (v : TDir) : wtL (TDir.enc v) = v.name.length + DC.wt (.sl (v.args.map TArg.enc)) := by
  simp only [TDir.enc_eq, wtL, DC.wt]
  try omega
theorem sz_Dir (v : TDir) : okL (TDir.enc v) → ∀ left : Int, 0 ≤ left → left ≤ 1048576 → r_laws_szDir [.s v.name, .sl (v.args.map TArg.enc), .i left] = .ret [.i (szR left (wtL (TDir.enc v)))] := by
  intro ok left h0 h1
  rw [TDir.enc_eq] at ok
  simp only [okL] at ok
  rw [eq_laws_szDir]
  simp only [E_laws_szDir, List.getD_cons_zero, List.getD_cons_succ, DC.bb_b, DC.ii_i, DC.ss_s, DC.ll_sl]
  rw [wsum_Dir]
  have b0 : v.name.length ≤ 9223372036854775807 := by simpa only [DC.ok] using ok.1
  rw [show IntKind.i64.wrap (left - (v.name.length : Int)) = left - (v.name.length : Int) from wrap64 (by omega) (by omega)]
  by_cases c0 : left < ((v.name.length : Nat) : Int)
  · have c0' : left - ((v.name.length : Nat) : Int) < 0 := by omega
    simp only [c0', decide_true, if_true]
    try rw [szR_lt (by omega)]
  have c0' : ¬ left - ((v.name.length : Nat) : Int) < 0 := by omega
  simp only [c0', decide_false, Bool.false_eq_true, if_false]
  rw [szS_Arg v.args ok.2.1 ((left - ((v.name.length : Nat) : Int))) (by omega) (by omega)]
  simp only [Out.bindR_ret, List.getD_cons_zero, List.getD_cons_succ, DC.bb_b, DC.ii_i, DC.ss_s, DC.ll_sl]
  by_cases c1 : (left - ((v.name.length : Nat) : Int)) < ((DC.wt (.sl (v.args.map TArg.enc)) : Nat) : Int)
  · rw [szR_lt c1]
    simp only [show (-1 : Int) < 0 by omega, decide_true, if_true]
    try rw [szR_lt (by omega)]
  rw [szR_ge c1]
  have c1' : ¬ (left - ((v.name.length : Nat) : Int)) - ((DC.wt (.sl (v.args.map TArg.enc)) : Nat) : Int) < 0 := by omega
  simp only [c1', decide_false, Bool.false_eq_true, if_false]
  first
  | done
  | rw [show szR left (v.name.length + DC.wt (.sl (v.args.map TArg.enc))) = ((left - ((v.name.length : Nat) : Int)) - ((DC.wt (.sl (v.args.map TArg.enc)) : Nat) : Int)) from (szR_ge (by omega)).trans (by omega)]
theorem szS_Dir' (vs : List TDir) (hs : ∀ v ∈ vs, okL (TDir.enc v) → ∀ left : Int, 0 ≤ left → left ≤ 1048576 → r_laws_szDir [.s v.name, .sl (v.args.map TArg.enc), .i left] = .ret [.i (szR left (wtL (TDir.enc v)))]) (ok : (DC.sl (vs.map TDir.enc)).ok) (left : Int) (h0 : 0 ≤ left) (h1 : left ≤ 1048576) : r_laws_szDirS [.sl (vs.map TDir.enc), .i left] = .ret [.i (szR left (DC.wt (.sl (vs.map TDir.enc))))] := by
  rw [DC.ok, List.length_map] at ok
  obtain ⟨hl, ok⟩ := ok
  rw [eq_laws_szDirS]
  simp only [E_laws_szDirS, List.getD_cons_zero, List.getD_cons_succ, DC.bb_b, DC.ii_i, DC.ss_s, DC.ll_sl]
  refine szS_all hl (fun i hi left h0 h1 => ?_) (fun left => ?_) h0 h1
  · have key := hs vs[i] (List.getElem_mem hi) (okV_mem ok _ (List.mem_map_of_mem (List.getElem_mem hi))) left h0 h1
    generalize wtL (TDir.enc vs[i]) = w at key ⊢
    have hc1 : (i : Int) < (vs.length : Int) := by omega
    simp only [E_laws_szDirSL1, List.getD_cons_zero, List.getD_cons_succ, DC.bb_b, DC.ii_i, DC.ss_s, DC.ll_sl, Int.toNat_natCast, List.length_map, map_getD hi, TDir.enc_eq, key, Out.bindR_ret]
    by_cases hc : left < (w : Int)
    · simp [hi, hc1, hc, szR_lt hc]
    · simp [hi, hc1, hc, szR_ge hc, show ¬ left - (w : Int) < 0 by omega, wrap_succ hi hl]
  · simp [E_laws_szDirSL1]
theorem szS_Dir (vs : List TDir) (ok : (DC.sl (vs.map TDir.enc)).ok) (left : Int) (h0 : 0 ≤ left) (h1 : left ≤ 1048576) : r_laws_szDirS [.sl (vs.map TDir.enc), .i left] = .ret [.i (szR left (DC.wt (.sl (vs.map TDir.enc))))] := szS_Dir' vs (fun v _ => sz_Dir v) ok left h0 h1
theorem to_Dir (v : TDir) : wtL (TDir.enc v) ≤ 1048576 → r_laws_toDir [.s v.name, .sl (v.args.map TArg.enc)] = .ret (TDir.enc v) := by
  intro hw
  rw [wsum_Dir] at hw
  rw [eq_laws_toDir]
  simp only [E_laws_toDir, List.getD_cons_zero, List.getD_cons_succ, DC.bb_b, DC.ii_i, DC.ss_s, DC.ll_sl]
  rw [toS_Arg v.args (by omega)]
  simp only [Out.bindR_ret, List.getD_cons_zero, List.getD_cons_succ, DC.bb_b, DC.ii_i, DC.ss_s, DC.ll_sl]
  rw [TDir.enc_eq]
theorem toS_Dir' (vs : List TDir) (hs : ∀ v ∈ vs, wtL (TDir.enc v) ≤ 1048576 → r_laws_toDir [.s v.name, .sl (v.args.map TArg.enc)] = .ret (TDir.enc v)) (hw : DC.wt (.sl (vs.map TDir.enc)) ≤ 1048576) : r_laws_toDirS [.sl (vs.map TDir.enc)] = .ret [.sl (vs.map TDir.enc)] := by
  rw [DC.wt, List.length_map] at hw
  have hl : vs.length ≤ 1048576 := by omega
  rw [eq_laws_toDirS]
  simp only [E_laws_toDirS, List.getD_cons_zero, List.getD_cons_succ, DC.bb_b, DC.ii_i, DC.ss_s, DC.ll_sl]
  rw [if_pos ⟨by omega, by rw [List.length_map]; exact lim_of hl, trivial, by omega, by omega⟩, Int.toNat_natCast, List.length_map, show (0 : Int) = ((0 : Nat) : Int) from rfl, toS_loop hl (fun i hi cur h1 h2 => ?_) (fun cur => ?_)]
  · rfl
  · have key := hs vs[i] (List.getElem_mem hi) (by have := wtV_mem (List.mem_map_of_mem (f := TDir.enc) (List.getElem_mem hi)); omega)
    have hc1 : (i : Int) < (vs.length : Int) := by omega
    simp only [E_laws_toDirSL1, List.getD_cons_zero, List.getD_cons_succ, DC.bb_b, DC.ii_i, DC.ss_s, DC.ll_sl, Int.toNat_natCast, List.length_map, map_getD hi, h1, h2, TDir.enc_eq] at key ⊢
    simp only [key, List.getD_cons_zero, List.getD_cons_succ, DC.bb_b, DC.ii_i, DC.ss_s, DC.ll_sl, Out.bindR_ret]
    simp [hi, hc1, wrap_succ hi (show vs.length ≤ 9223372036854775807 by omega), setRunD]
  · simp [E_laws_toDirSL1]
theorem toS_Dir (vs : List TDir) (hw : DC.wt (.sl (vs.map TDir.enc)) ≤ 1048576) : r_laws_toDirS [.sl (vs.map TDir.enc)] = .ret [.sl (vs.map TDir.enc)] := toS_Dir' vs (fun v _ => to_Dir v) hw
theorem eq_Dir (v : TDir) : wtL (TDir.enc v) ≤ 1048576 → r_laws_eqDir [.s v.name, .sl (v.args.map TArg.enc), .s v.name, .sl (v.args.map TArg.enc)] = .ret [.b true] := by
  intro hw
  rw [wsum_Dir] at hw
  rw [eq_laws_eqDir]
  simp only [E_laws_eqDir, List.getD_cons_zero, List.getD_cons_succ, DC.bb_b, DC.ii_i, DC.ss_s, DC.ll_sl, bne_self_eq_false, beq_self_eq_true, Bool.not_true, Bool.false_eq_true, if_false]
  rw [eqS_Arg v.args (by omega)]
  simp only [Out.bindR_ret, List.getD_cons_zero, List.getD_cons_succ, DC.bb_b, DC.ii_i, DC.ss_s, DC.ll_sl, bne_self_eq_false, beq_self_eq_true, Bool.not_true, Bool.false_eq_true, if_false]
theorem eqS_Dir' (vs : List TDir) (hs : ∀ v ∈ vs, wtL (TDir.enc v) ≤ 1048576 → r_laws_eqDir [.s v.name, .sl (v.args.map TArg.enc), .s v.name, .sl (v.args.map TArg.enc)] = .ret [.b true]) (hw : DC.wt (.sl (vs.map TDir.enc)) ≤ 1048576) : r_laws_eqDirS [.sl (vs.map TDir.enc), .sl (vs.map TDir.enc)] = .ret [.b true] := by
  rw [DC.wt, List.length_map] at hw
  have hl : vs.length ≤ 1048576 := by omega
  rw [eq_laws_eqDirS]
  simp only [E_laws_eqDirS, List.getD_cons_zero, List.getD_cons_succ, DC.bb_b, DC.ii_i, DC.ss_s, DC.ll_sl]
  refine eqS_all (fun i hi => ?_) ?_
  · rw [List.length_map] at hi
    have key := hs vs[i] (List.getElem_mem hi) (by have := wtV_mem (List.mem_map_of_mem (f := TDir.enc) (List.getElem_mem hi)); omega)
    have hc1 : (i : Int) < (vs.length : Int) := by omega
    simp only [E_laws_eqDirSL1, List.getD_cons_zero, List.getD_cons_succ, DC.bb_b, DC.ii_i, DC.ss_s, DC.ll_sl, Int.toNat_natCast, List.length_map, map_getD hi, TDir.enc_eq] at key ⊢
    simp only [key, List.getD_cons_zero, List.getD_cons_succ, DC.bb_b, DC.ii_i, DC.ss_s, DC.ll_sl, Out.bindR_ret]
    simp [hi, hc1, wrap_succ hi (show vs.length ≤ 9223372036854775807 by omega)]
  · simp [E_laws_eqDirSL1]
theorem eqS_Dir (vs : List TDir) (hw : DC.wt (.sl (vs.map TDir.enc)) ≤ 1048576) : r_laws_eqDirS [.sl (vs.map TDir.enc), .sl (vs.map TDir.enc)] = .ret [.b true] := eqS_Dir' vs (fun v _ => eq_Dir v) hw
theorem wsum_InDef (v : TInDef) : wtL (TInDef.enc v) = v.name.length + v.desc.length + wtL (TType.enc v.type') + wtL (TValue.enc v.default') + DC.wt (.sl (v.dirs.map TDir.enc)) := by
  simp only [TInDef.enc_eq, wtL, DC.wt, TType.enc_eq, TValue.enc_eq]
  try omega
theorem sz_InDef (v : TInDef) : okL (TInDef.enc v) → ∀ left : Int, 0 ≤ left → left ≤ 1048576 → r_laws_szInDef [.s v.name, .s v.desc, .s v.type'.name, .s v.type'.wraps, .b v.has', .i v.default'.kind, .s v.default'.text, .sl (v.default'.items.map TValue.enc), .sl (v.default'.names.map S1), .sl (v.dirs.map TDir.enc), .i left] = .ret [.i (szR left (wtL (TInDef.enc v)))] := by
  intro ok left h0 h1
  rw [TInDef.enc_eq] at ok
  simp only [okL] at ok
  rw [eq_laws_szInDef]
  simp only [E_laws_szInDef, List.getD_cons_zero, List.getD_cons_succ, DC.bb_b, DC.ii_i, DC.ss_s, DC.ll_sl]
  rw [wsum_InDef]
  have b0 : v.name.length ≤ 9223372036854775807 := by simpa only [DC.ok] using ok.1
  have b1 : v.desc.length ≤ 9223372036854775807 := by simpa only [DC.ok] using ok.2.1
  rw [show IntKind.i64.wrap (left - (v.name.length : Int)) = left - (v.name.length : Int) from wrap64 (by omega) (by omega)]
  by_cases c0 : left < ((v.name.length : Nat) : Int)
  · have c0' : left - ((v.name.length : Nat) : Int) < 0 := by omega
    simp only [c0', decide_true, if_true]
    try rw [szR_lt (by omega)]
  have c0' : ¬ left - ((v.name.length : Nat) : Int) < 0 := by omega
  simp only [c0', decide_false, Bool.false_eq_true, if_false]
  rw [show IntKind.i64.wrap ((left - ((v.name.length : Nat) : Int)) - (v.desc.length : Int)) = (left - ((v.name.length : Nat) : Int)) - (v.desc.length : Int) from wrap64 (by omega) (by omega)]
  by_cases c1 : (left - ((v.name.length : Nat) : Int)) < ((v.desc.length : Nat) : Int)
  · have c1' : (left - ((v.name.length : Nat) : Int)) - ((v.desc.length : Nat) : Int) < 0 := by omega
    simp only [c1', decide_true, if_true]
    try rw [szR_lt (by omega)]
  have c1' : ¬ (left - ((v.name.length : Nat) : Int)) - ((v.desc.length : Nat) : Int) < 0 := by omega
  simp only [c1', decide_false, Bool.false_eq_true, if_false]
  rw [sz_Type v.type' (by rw [TType.enc_eq]; simp only [okL]; exact ⟨ok.2.2.1, ok.2.2.2.1, trivial⟩) (((left - ((v.name.length : Nat) : Int)) - ((v.desc.length : Nat) : Int))) (by omega) (by omega)]
  simp only [Out.bindR_ret, List.getD_cons_zero, List.getD_cons_succ, DC.bb_b, DC.ii_i, DC.ss_s, DC.ll_sl]
  by_cases c2 : ((left - ((v.name.length : Nat) : Int)) - ((v.desc.length : Nat) : Int)) < ((wtL (TType.enc v.type') : Nat) : Int)
  · rw [szR_lt c2]
    simp only [show (-1 : Int) < 0 by omega, decide_true, if_true]
    try rw [szR_lt (by omega)]
  rw [szR_ge c2]
  have c2' : ¬ ((left - ((v.name.length : Nat) : Int)) - ((v.desc.length : Nat) : Int)) - ((wtL (TType.enc v.type') : Nat) : Int) < 0 := by omega
  simp only [c2', decide_false, Bool.false_eq_true, if_false]
  rw [sz_Value v.default' (by rw [TValue.enc_eq]; simp only [okL]; exact ⟨ok.2.2.2.2.2.1, ok.2.2.2.2.2.2.1, ok.2.2.2.2.2.2.2.1, ok.2.2.2.2.2.2.2.2.1, trivial⟩) ((((left - ((v.name.length : Nat) : Int)) - ((v.desc.length : Nat) : Int)) - ((wtL (TType.enc v.type') : Nat) : Int))) (by omega) (by omega)]
  simp only [Out.bindR_ret, List.getD_cons_zero, List.getD_cons_succ, DC.bb_b, DC.ii_i, DC.ss_s, DC.ll_sl]
  by_cases c3 : (((left - ((v.name.length : Nat) : Int)) - ((v.desc.length : Nat) : Int)) - ((wtL (TType.enc v.type') : Nat) : Int)) < ((wtL (TValue.enc v.default') : Nat) : Int)
  · rw [szR_lt c3]
    simp only [show (-1 : Int) < 0 by omega, decide_true, if_true]
    try rw [szR_lt (by omega)]
  rw [szR_ge c3]
  have c3' : ¬ (((left - ((v.name.length : Nat) : Int)) - ((v.desc.length : Nat) : Int)) - ((wtL (TType.enc v.type') : Nat) : Int)) - ((wtL (TValue.enc v.default') : Nat) : Int) < 0 := by omega
  simp only [c3', decide_false, Bool.false_eq_true, if_false]
  rw [szS_Dir v.dirs ok.2.2.2.2.2.2.2.2.2.1 (((((left - ((v.name.length : Nat) : Int)) - ((v.desc.length : Nat) : Int)) - ((wtL (TType.enc v.type') : Nat) : Int)) - ((wtL (TValue.enc v.default') : Nat) : Int))) (by omega) (by omega)]
  simp only [Out.bindR_ret, List.getD_cons_zero, List.getD_cons_succ, DC.bb_b, DC.ii_i, DC.ss_s, DC.ll_sl]
  by_cases c4 : ((((left - ((v.name.length : Nat) : Int)) - ((v.desc.length : Nat) : Int)) - ((wtL (TType.enc v.type') : Nat) : Int)) - ((wtL (TValue.enc v.default') : Nat) : Int)) < ((DC.wt (.sl (v.dirs.map TDir.enc)) : Nat) : Int)
  · rw [szR_lt c4]
    simp only [show (-1 : Int) < 0 by omega, decide_true, if_true]
    try rw [szR_lt (by omega)]
  rw [szR_ge c4]
  have c4' : ¬ ((((left - ((v.name.length : Nat) : Int)) - ((v.desc.length : Nat) : Int)) - ((wtL (TType.enc v.type') : Nat) : Int)) - ((wtL (TValue.enc v.default') : Nat) : Int)) - ((DC.wt (.sl (v.dirs.map TDir.enc)) : Nat) : Int) < 0 := by omega
  simp only [c4', decide_false, Bool.false_eq_true, if_false]
  first
  | done
  | rw [show szR left (v.name.length + v.desc.length + wtL (TType.enc v.type') + wtL (TValue.enc v.default') + DC.wt (.sl (v.dirs.map TDir.enc))) = (((((left - ((v.name.length : Nat) : Int)) - ((v.desc.length : Nat) : Int)) - ((wtL (TType.enc v.type') : Nat) : Int)) - ((wtL (TValue.enc v.default') : Nat) : Int)) - ((DC.wt (.sl (v.dirs.map TDir.enc)) : Nat) : Int)) from (szR_ge (by omega)).trans (by omega)]
theorem szS_InDef' (vs : List TInDef) (hs : ∀ v ∈ vs, okL (TInDef.enc v) → ∀ left : Int, 0 ≤ left → left ≤ 1048576 → r_laws_szInDef [.s v.name, .s v.desc, .s v.type'.name, .s v.type'.wraps, .b v.has', .i v.default'.kind, .s v.default'.text, .sl (v.default'.items.map TValue.enc), .sl (v.default'.names.map S1), .sl (v.dirs.map TDir.enc), .i left] = .ret [.i (szR left (wtL (TInDef.enc v)))]) (ok : (DC.sl (vs.map TInDef.enc)).ok) (left : Int) (h0 : 0 ≤ left) (h1 : left ≤ 1048576) : r_laws_szInDefS [.sl (vs.map TInDef.enc), .i left] = .ret [.i (szR left (DC.wt (.sl (vs.map TInDef.enc))))] := by
  rw [DC.ok, List.length_map] at ok
  obtain ⟨hl, ok⟩ := ok
  rw [eq_laws_szInDefS]
  simp only [E_laws_szInDefS, List.getD_cons_zero, List.getD_cons_succ, DC.bb_b, DC.ii_i, DC.ss_s, DC.ll_sl]
  refine szS_all hl (fun i hi left h0 h1 => ?_) (fun left => ?_) h0 h1
  · have key := hs vs[i] (List.getElem_mem hi) (okV_mem ok _ (List.mem_map_of_mem (List.getElem_mem hi))) left h0 h1
    generalize wtL (TInDef.enc vs[i]) = w at key ⊢
    have hc1 : (i : Int) < (vs.length : Int) := by omega
    simp only [E_laws_szInDefSL1, List.getD_cons_zero, List.getD_cons_succ, DC.bb_b, DC.ii_i, DC.ss_s, DC.ll_sl, Int.toNat_natCast, List.length_map, map_getD hi, TInDef.enc_eq, key, Out.bindR_ret]
    by_cases hc : left < (w : Int)
    · simp [hi, hc1, hc, szR_lt hc]
    · simp [hi, hc1, hc, szR_ge hc, show ¬ left - (w : Int) < 0 by omega, wrap_succ hi hl]
  · simp [E_laws_szInDefSL1]
theorem szS_InDef (vs : List TInDef) (ok : (DC.sl (vs.map TInDef.enc)).ok) (left : Int) (h0 : 0 ≤ left) (h1 : left ≤ 1048576) : r_laws_szInDefS [.sl (vs.map TInDef.enc), .i left] = .ret [.i (szR left (DC.wt (.sl (vs.map TInDef.enc))))] := szS_InDef' vs (fun v _ => sz_InDef v) ok left h0 h1
theorem to_InDef (v : TInDef) : wtL (TInDef.enc v) ≤ 1048576 → r_laws_toInDef [.s v.name, .s v.desc, .s v.type'.name, .s v.type'.wraps, .b v.has', .i v.default'.kind, .s v.default'.text, .sl (v.default'.items.map TValue.enc), .sl (v.default'.names.map S1), .sl (v.dirs.map TDir.enc)] = .ret (TInDef.enc v) := by
  intro hw
  rw [wsum_InDef] at hw
  rw [eq_laws_toInDef]
  simp only [E_laws_toInDef, List.getD_cons_zero, List.getD_cons_succ, DC.bb_b, DC.ii_i, DC.ss_s, DC.ll_sl]
  rw [to_Type v.type' (by omega)]
  simp only [Out.bindR_ret, TType.enc_eq, List.getD_cons_zero, List.getD_cons_succ, DC.bb_b, DC.ii_i, DC.ss_s, DC.ll_sl]
  rw [to_Value v.default' (by omega)]
  simp only [Out.bindR_ret, TValue.enc_eq, List.getD_cons_zero, List.getD_cons_succ, DC.bb_b, DC.ii_i, DC.ss_s, DC.ll_sl]
  rw [toS_Dir v.dirs (by omega)]
  simp only [Out.bindR_ret, List.getD_cons_zero, List.getD_cons_succ, DC.bb_b, DC.ii_i, DC.ss_s, DC.ll_sl]
  rw [TInDef.enc_eq]
theorem toS_InDef' (vs : List TInDef) (hs : ∀ v ∈ vs, wtL (TInDef.enc v) ≤ 1048576 → r_laws_toInDef [.s v.name, .s v.desc, .s v.type'.name, .s v.type'.wraps, .b v.has', .i v.default'.kind, .s v.default'.text, .sl (v.default'.items.map TValue.enc), .sl (v.default'.names.map S1), .sl (v.dirs.map TDir.enc)] = .ret (TInDef.enc v)) (hw : DC.wt (.sl (vs.map TInDef.enc)) ≤ 1048576) : r_laws_toInDefS [.sl (vs.map TInDef.enc)] = .ret [.sl (vs.map TInDef.enc)] := by
  rw [DC.wt, List.length_map] at hw
  have hl : vs.length ≤ 1048576 := by omega
  rw [eq_laws_toInDefS]
  simp only [E_laws_toInDefS, List.getD_cons_zero, List.getD_cons_succ, DC.bb_b, DC.ii_i, DC.ss_s, DC.ll_sl]
  rw [if_pos ⟨by omega, by rw [List.length_map]; exact lim_of hl, trivial, by omega, by omega⟩, Int.toNat_natCast, List.length_map, show (0 : Int) = ((0 : Nat) : Int) from rfl, toS_loop hl (fun i hi cur h1 h2 => ?_) (fun cur => ?_)]
  · rfl
  · have key := hs vs[i] (List.getElem_mem hi) (by have := wtV_mem (List.mem_map_of_mem (f := TInDef.enc) (List.getElem_mem hi)); omega)
    have hc1 : (i : Int) < (vs.length : Int) := by omega
    simp only [E_laws_toInDefSL1, List.getD_cons_zero, List.getD_cons_succ, DC.bb_b, DC.ii_i, DC.ss_s, DC.ll_sl, Int.toNat_natCast, List.length_map, map_getD hi, h1, h2, TInDef.enc_eq] at key ⊢
    simp only [key, List.getD_cons_zero, List.getD_cons_succ, DC.bb_b, DC.ii_i, DC.ss_s, DC.ll_sl, Out.bindR_ret]
    simp [hi, hc1, wrap_succ hi (show vs.length ≤ 9223372036854775807 by omega), setRunD]
  · simp [E_laws_toInDefSL1]
theorem toS_InDef (vs : List TInDef) (hw : DC.wt (.sl (vs.map TInDef.enc)) ≤ 1048576) : r_laws_toInDefS [.sl (vs.map TInDef.enc)] = .ret [.sl (vs.map TInDef.enc)] := toS_InDef' vs (fun v _ => to_InDef v) hw
theorem eq_InDef (v : TInDef) : wtL (TInDef.enc v) ≤ 1048576 → r_laws_eqInDef [.s v.name, .s v.desc, .s v.type'.name, .s v.type'.wraps, .b v.has', .i v.default'.kind, .s v.default'.text, .sl (v.default'.items.map TValue.enc), .sl (v.default'.names.map S1), .sl (v.dirs.map TDir.enc), .s v.name, .s v.desc, .s v.type'.name, .s v.type'.wraps, .b v.has', .i v.default'.kind, .s v.default'.text, .sl (v.default'.items.map TValue.enc), .sl (v.default'.names.map S1), .sl (v.dirs.map TDir.enc)] = .ret [.b true] := by
  intro hw
  rw [wsum_InDef] at hw
  rw [eq_laws_eqInDef]
  simp only [E_laws_eqInDef, List.getD_cons_zero, List.getD_cons_succ, DC.bb_b, DC.ii_i, DC.ss_s, DC.ll_sl, bne_self_eq_false, beq_self_eq_true, Bool.not_true, Bool.false_eq_true, if_false]
  rw [eq_Type v.type' (by omega)]
  simp only [Out.bindR_ret, List.getD_cons_zero, List.getD_cons_succ, DC.bb_b, DC.ii_i, DC.ss_s, DC.ll_sl, bne_self_eq_false, beq_self_eq_true, Bool.not_true, Bool.false_eq_true, if_false]
  rw [eq_Value v.default' (by omega)]
  simp only [Out.bindR_ret, List.getD_cons_zero, List.getD_cons_succ, DC.bb_b, DC.ii_i, DC.ss_s, DC.ll_sl, bne_self_eq_false, beq_self_eq_true, Bool.not_true, Bool.false_eq_true, if_false]
  rw [eqS_Dir v.dirs (by omega)]
  simp only [Out.bindR_ret, List.getD_cons_zero, List.getD_cons_succ, DC.bb_b, DC.ii_i, DC.ss_s, DC.ll_sl, bne_self_eq_false, beq_self_eq_true, Bool.not_true, Bool.false_eq_true, if_false]
theorem eqS_InDef' (vs : List TInDef) (hs : ∀ v ∈ vs, wtL (TInDef.enc v) ≤ 1048576 → r_laws_eqInDef [.s v.name, .s v.desc, .s v.type'.name, .s v.type'.wraps, .b v.has', .i v.default'.kind, .s v.default'.text, .sl (v.default'.items.map TValue.enc), .sl (v.default'.names.map S1), .sl (v.dirs.map TDir.enc), .s v.name, .s v.desc, .s v.type'.name, .s v.type'.wraps, .b v.has', .i v.default'.kind, .s v.default'.text, .sl (v.default'.items.map TValue.enc), .sl (v.default'.names.map S1), .sl (v.dirs.map TDir.enc)] = .ret [.b true]) (hw : DC.wt (.sl (vs.map TInDef.enc)) ≤ 1048576) : r_laws_eqInDefS [.sl (vs.map TInDef.enc), .sl (vs.map TInDef.enc)] = .ret [.b true] := by
  rw [DC.wt, List.length_map] at hw
  have hl : vs.length ≤ 1048576 := by omega
  rw [eq_laws_eqInDefS]
  simp only [E_laws_eqInDefS, List.getD_cons_zero, List.getD_cons_succ, DC.bb_b, DC.ii_i, DC.ss_s, DC.ll_sl]
  refine eqS_all (fun i hi => ?_) ?_
  · rw [List.length_map] at hi
    have key := hs vs[i] (List.getElem_mem hi) (by have := wtV_mem (List.mem_map_of_mem (f := TInDef.enc) (List.getElem_mem hi)); omega)
    have hc1 : (i : Int) < (vs.length : Int) := by omega
    simp only [E_laws_eqInDefSL1, List.getD_cons_zero, List.getD_cons_succ, DC.bb_b, DC.ii_i, DC.ss_s, DC.ll_sl, Int.toNat_natCast, List.length_map, map_getD hi, TInDef.enc_eq] at key ⊢
    simp only [key, List.getD_cons_zero, List.getD_cons_succ, DC.bb_b, DC.ii_i, DC.ss_s, DC.ll_sl, Out.bindR_ret]
    simp [hi, hc1, wrap_succ hi (show vs.length ≤ 9223372036854775807 by omega)]
  · simp [E_laws_eqInDefSL1]
theorem eqS_InDef (vs : List TInDef) (hw : DC.wt (.sl (vs.map TInDef.enc)) ≤ 1048576) : r_laws_eqInDefS [.sl (vs.map TInDef.enc), .sl (vs.map TInDef.enc)] = .ret [.b true] := eqS_InDef' vs (fun v _ => eq_InDef v) hw
theorem wsum_FieldDef (v : TFieldDef) : wtL (TFieldDef.enc v) = v.name.length + v.desc.length + DC.wt (.sl (v.args.map TInDef.enc)) + wtL (TType.enc v.type') + DC.wt (.sl (v.dirs.map TDir.enc)) := by
  simp only [TFieldDef.enc_eq, wtL, DC.wt, TType.enc_eq]
  try omega
theorem sz_FieldDef (v : TFieldDef) : okL (TFieldDef.enc v) → ∀ left : Int, 0 ≤ left → left ≤ 1048576 → r_laws_szFieldDef [.s v.name, .s v.desc, .sl (v.args.map TInDef.enc), .s v.type'.name, .s v.type'.wraps, .sl (v.dirs.map TDir.enc), .i left] = .ret [.i (szR left (wtL (TFieldDef.enc v)))] := by
  intro ok left h0 h1
  rw [TFieldDef.enc_eq] at ok
  simp only [okL] at ok
  rw [eq_laws_szFieldDef]
  simp only [E_laws_szFieldDef, List.getD_cons_zero, List.getD_cons_succ, DC.bb_b, DC.ii_i, DC.ss_s, DC.ll_sl]
  rw [wsum_FieldDef]
  have b0 : v.name.length ≤ 9223372036854775807 := by simpa only [DC.ok] using ok.1
  have b1 : v.desc.length ≤ 9223372036854775807 := by simpa only [DC.ok] using ok.2.1
  rw [show IntKind.i64.wrap (left - (v.name.length : Int)) = left - (v.name.length : Int) from wrap64 (by omega) (by omega)]
  by_cases c0 : left < ((v.name.length : Nat) : Int)
  · have c0' : left - ((v.name.length : Nat) : Int) < 0 := by omega
    simp only [c0', decide_true, if_true]
    try rw [szR_lt (by omega)]
  have c0' : ¬ left - ((v.name.length : Nat) : Int) < 0 := by omega
  simp only [c0', decide_false, Bool.false_eq_true, if_false]
  rw [show IntKind.i64.wrap ((left - ((v.name.length : Nat) : Int)) - (v.desc.length : Int)) = (left - ((v.name.length : Nat) : Int)) - (v.desc.length : Int) from wrap64 (by omega) (by omega)]
  by_cases c1 : (left - ((v.name.length : Nat) : Int)) < ((v.desc.length : Nat) : Int)
  · have c1' : (left - ((v.name.length : Nat) : Int)) - ((v.desc.length : Nat) : Int) < 0 := by omega
    simp only [c1', decide_true, if_true]
    try rw [szR_lt (by omega)]
  have c1' : ¬ (left - ((v.name.length : Nat) : Int)) - ((v.desc.length : Nat) : Int) < 0 := by omega
  simp only [c1', decide_false, Bool.false_eq_true, if_false]
  rw [szS_InDef v.args ok.2.2.1 (((left - ((v.name.length : Nat) : Int)) - ((v.desc.length : Nat) : Int))) (by omega) (by omega)]
  simp only [Out.bindR_ret, List.getD_cons_zero, List.getD_cons_succ, DC.bb_b, DC.ii_i, DC.ss_s, DC.ll_sl]
  by_cases c2 : ((left - ((v.name.length : Nat) : Int)) - ((v.desc.length : Nat) : Int)) < ((DC.wt (.sl (v.args.map TInDef.enc)) : Nat) : Int)
  · rw [szR_lt c2]
    simp only [show (-1 : Int) < 0 by omega, decide_true, if_true]
    try rw [szR_lt (by omega)]
  rw [szR_ge c2]
  have c2' : ¬ ((left - ((v.name.length : Nat) : Int)) - ((v.desc.length : Nat) : Int)) - ((DC.wt (.sl (v.args.map TInDef.enc)) : Nat) : Int) < 0 := by omega
  simp only [c2', decide_false, Bool.false_eq_true, if_false]
  rw [sz_Type v.type' (by rw [TType.enc_eq]; simp only [okL]; exact ⟨ok.2.2.2.1, ok.2.2.2.2.1, trivial⟩) ((((left - ((v.name.length : Nat) : Int)) - ((v.desc.length : Nat) : Int)) - ((DC.wt (.sl (v.args.map TInDef.enc)) : Nat) : Int))) (by omega) (by omega)]
  simp only [Out.bindR_ret, List.getD_cons_zero, List.getD_cons_succ, DC.bb_b, DC.ii_i, DC.ss_s, DC.ll_sl]
  by_cases c3 : (((left - ((v.name.length : Nat) : Int)) - ((v.desc.length : Nat) : Int)) - ((DC.wt (.sl (v.args.map TInDef.enc)) : Nat) : Int)) < ((wtL (TType.enc v.type') : Nat) : Int)
  · rw [szR_lt c3]
    simp only [show (-1 : Int) < 0 by omega, decide_true, if_true]
    try rw [szR_lt (by omega)]
  rw [szR_ge c3]
  have c3' : ¬ (((left - ((v.name.length : Nat) : Int)) - ((v.desc.length : Nat) : Int)) - ((DC.wt (.sl (v.args.map TInDef.enc)) : Nat) : Int)) - ((wtL (TType.enc v.type') : Nat) : Int) < 0 := by omega
  simp only [c3', decide_false, Bool.false_eq_true, if_false]
  rw [szS_Dir v.dirs ok.2.2.2.2.2.1 (((((left - ((v.name.length : Nat) : Int)) - ((v.desc.length : Nat) : Int)) - ((DC.wt (.sl (v.args.map TInDef.enc)) : Nat) : Int)) - ((wtL (TType.enc v.type') : Nat) : Int))) (by omega) (by omega)]
  simp only [Out.bindR_ret, List.getD_cons_zero, List.getD_cons_succ, DC.bb_b, DC.ii_i, DC.ss_s, DC.ll_sl]
  by_cases c4 : ((((left - ((v.name.length : Nat) : Int)) - ((v.desc.length : Nat) : Int)) - ((DC.wt (.sl (v.args.map TInDef.enc)) : Nat) : Int)) - ((wtL (TType.enc v.type') : Nat) : Int)) < ((DC.wt (.sl (v.dirs.map TDir.enc)) : Nat) : Int)
  · rw [szR_lt c4]
    simp only [show (-1 : Int) < 0 by omega, decide_true, if_true]
    try rw [szR_lt (by omega)]
  rw [szR_ge c4]
  have c4' : ¬ ((((left - ((v.name.length : Nat) : Int)) - ((v.desc.length : Nat) : Int)) - ((DC.wt (.sl (v.args.map TInDef.enc)) : Nat) : Int)) - ((wtL (TType.enc v.type') : Nat) : Int)) - ((DC.wt (.sl (v.dirs.map TDir.enc)) : Nat) : Int) < 0 := by omega
  simp only [c4', decide_false, Bool.false_eq_true, if_false]
  first
  | done
  | rw [show szR left (v.name.length + v.desc.length + DC.wt (.sl (v.args.map TInDef.enc)) + wtL (TType.enc v.type') + DC.wt (.sl (v.dirs.map TDir.enc))) = (((((left - ((v.name.length : Nat) : Int)) - ((v.desc.length : Nat) : Int)) - ((DC.wt (.sl (v.args.map TInDef.enc)) : Nat) : Int)) - ((wtL (TType.enc v.type') : Nat) : Int)) - ((DC.wt (.sl (v.dirs.map TDir.enc)) : Nat) : Int)) from (szR_ge (by omega)).trans (by omega)]
theorem to_FieldDef (v : TFieldDef) : wtL (TFieldDef.enc v) ≤ 1048576 → r_laws_toFieldDef [.s v.name, .s v.desc, .sl (v.args.map TInDef.enc), .s v.type'.name, .s v.type'.wraps, .sl (v.dirs.map TDir.enc)] = .ret (TFieldDef.enc v) := by
  intro hw
  rw [wsum_FieldDef] at hw
  rw [eq_laws_toFieldDef]
  simp only [E_laws_toFieldDef, List.getD_cons_zero, List.getD_cons_succ, DC.bb_b, DC.ii_i, DC.ss_s, DC.ll_sl]
  rw [toS_InDef v.args (by omega)]
  simp only [Out.bindR_ret, List.getD_cons_zero, List.getD_cons_succ, DC.bb_b, DC.ii_i, DC.ss_s, DC.ll_sl]
  rw [to_Type v.type' (by omega)]
  simp only [Out.bindR_ret, TType.enc_eq, List.getD_cons_zero, List.getD_cons_succ, DC.bb_b, DC.ii_i, DC.ss_s, DC.ll_sl]
  rw [toS_Dir v.dirs (by omega)]
  simp only [Out.bindR_ret, List.getD_cons_zero, List.getD_cons_succ, DC.bb_b, DC.ii_i, DC.ss_s, DC.ll_sl]
  rw [TFieldDef.enc_eq]
theorem eq_FieldDef (v : TFieldDef) : wtL (TFieldDef.enc v) ≤ 1048576 → r_laws_eqFieldDef [.s v.name, .s v.desc, .sl (v.args.map TInDef.enc), .s v.type'.name, .s v.type'.wraps, .sl (v.dirs.map TDir.enc), .s v.name, .s v.desc, .sl (v.args.map TInDef.enc), .s v.type'.name, .s v.type'.wraps, .sl (v.dirs.map TDir.enc)] = .ret [.b true] := by
  intro hw
  rw [wsum_FieldDef] at hw
  rw [eq_laws_eqFieldDef]
  simp only [E_laws_eqFieldDef, List.getD_cons_zero, List.getD_cons_succ, DC.bb_b, DC.ii_i, DC.ss_s, DC.ll_sl, bne_self_eq_false, beq_self_eq_true, Bool.not_true, Bool.false_eq_true, if_false]
  rw [eqS_InDef v.args (by omega)]
  simp only [Out.bindR_ret, List.getD_cons_zero, List.getD_cons_succ, DC.bb_b, DC.ii_i, DC.ss_s, DC.ll_sl, bne_self_eq_false, beq_self_eq_true, Bool.not_true, Bool.false_eq_true, if_false]
  rw [eq_Type v.type' (by omega)]
  simp only [Out.bindR_ret, List.getD_cons_zero, List.getD_cons_succ, DC.bb_b, DC.ii_i, DC.ss_s, DC.ll_sl, bne_self_eq_false, beq_self_eq_true, Bool.not_true, Bool.false_eq_true, if_false]
  rw [eqS_Dir v.dirs (by omega)]
  simp only [Out.bindR_ret, List.getD_cons_zero, List.getD_cons_succ, DC.bb_b, DC.ii_i, DC.ss_s, DC.ll_sl, bne_self_eq_false, beq_self_eq_true, Bool.not_true, Bool.false_eq_true, if_false]
mutual
theorem wfc_ok {ty : Nat → Option TI} : ∀ {t : CT} {c : DC}, WfC ty t c → c.ok
  | _, _, .b x => by simp [DC.ok]
  | _, _, .i k n _ _ => by simp [DC.ok]
  | _, _, .s l h => by rw [DC.ok]; simpa [maxLen] using h
  | _, _, .sl e te l h1 h2 h3 => by rw [DC.ok]; exact ⟨by simpa [maxLen] using h2, wfv_ok h3⟩
  | _, _, .nil e => by rw [DC.ok]; exact ⟨by simp, by rw [okV]; trivial⟩
theorem wfl_ok {ty : Nat → Option TI} : ∀ {ts : List CT} {x : List DC}, WfL ty ts x → okL x
  | _, _, .nil => by rw [okL]; trivial
  | _, _, .cons t ts x xs h1 h2 => by rw [okL]; exact ⟨wfc_ok h1, wfl_ok h2⟩
theorem wfv_ok {ty : Nat → Option TI} : ∀ {ts : List CT} {l : List (List DC)}, WfV ty ts l → okV l
  | _, _, .nil ts => by rw [okV]; trivial
  | _, _, .cons ts x l h1 h2 => by rw [okV]; exact ⟨wfl_ok h1, wfv_ok h2⟩
end
theorem decV {α : Type} {ty : Nat → Option TI} {enc : α → List DC} {cts : List CT} : ∀ {l : List (List DC)}, (∀ x ∈ l, WfL ty cts x → ∃ v, x = enc v) → WfV ty cts l → ∃ vs : List α, l = vs.map enc
  | [], _, _ => ⟨[], rfl⟩
  | x :: l, h, hw => by
    cases hw with
    | cons ts x l h1 h2 =>
      obtain ⟨v, hv⟩ := h x (by simp) h1
      obtain ⟨vs, hvs⟩ := decV (fun y hy => h y (by simp [hy])) h2
      exact ⟨v :: vs, by rw [List.map_cons, hv, hvs]⟩
theorem decC {α : Type} {ty : Nat → Option TI} {enc : α → List DC} {e : Nat} {te : TI} {c : DC} (hte : ty e = some te) (h : ∀ l, c = .sl l → ∀ x ∈ l, WfL ty te.cts x → ∃ v, x = enc v) (hw : WfC ty (.sl e) c) : ∃ vs : List α, c = .sl (vs.map enc) := by
  cases hw with
  | sl e te' l h1 h2 h3 =>
    rw [hte] at h1
    obtain rfl := Option.some.inj h1
    obtain ⟨vs, hvs⟩ := decV (h l rfl) h3
    exact ⟨vs, by rw [hvs]⟩
  | nil => exact ⟨[], rfl⟩
theorem dec_i {ty : Nat → Option TI} {k : IntKind} {c : DC} (h : WfC ty (.i k) c) : ∃ n, c = .i n ∧ k.min ≤ n ∧ n ≤ k.max := by
  cases h with
  | i k n h1 h2 => exact ⟨n, rfl, h1, h2⟩
theorem dec_b {ty : Nat → Option TI} {c : DC} (h : WfC ty .b c) : ∃ n, c = .b n := by cases h; exact ⟨_, rfl⟩
theorem dec_s {ty : Nat → Option TI} {c : DC} (h : WfC ty .s c) : ∃ n, c = .s n := by cases h; exact ⟨_, rfl⟩
theorem dec_S1 {ty : Nat → Option TI} {x : List DC} (h : WfL ty [.s] x) : ∃ n, x = S1 n := by
  cases h with
  | cons t ts x xs h1 h2 =>
    cases h2
    obtain ⟨n, rfl⟩ := dec_s h1
    exact ⟨n, rfl⟩
theorem wfl_cons {ty : Nat → Option TI} {t : CT} {ts : List CT} {x : List DC} (h : WfL ty (t :: ts) x) : ∃ c xs, x = c :: xs ∧ WfC ty t c ∧ WfL ty ts xs := by
  cases h with
  | cons t ts x xs h1 h2 => exact ⟨x, xs, rfl, h1, h2⟩
theorem wfl_nil {ty : Nat → Option TI} {x : List DC} (h : WfL ty [] x) : x = [] := by cases h; rfl
theorem mem_row_lt {l : List (List DC)} {x : List DC} (h : x ∈ l) : SizeOf.sizeOf x < SizeOf.sizeOf (DC.sl l) := by
  have := List.sizeOf_lt_of_mem h
  simp only [DC.sl.sizeOf_spec]
  omega
theorem tyS : cfg.ty 9 = some ⟨.str, [.s], 16, [], false⟩ := by kernel_rfl
theorem ty_Value : cfg.ty 34 = some ⟨.struct, [.i .i64, .s, .sl 34, .sl 9], 72, [(0, 1, false), (1, 1, false), (2, 1, false), (3, 1, false)], false⟩ := by kernel_rfl
theorem dec_Value {x : List DC} (h0 : WfL cfg.ty [.i .i64, .s, .sl 34, .sl 9] x) : ∃ v : TValue, x = TValue.enc v := by
  have h := h0
  obtain ⟨c0, r0, e0, w0, h⟩ := wfl_cons h
  obtain ⟨n0, rfl, _, _⟩ := dec_i w0
  obtain ⟨c1, r1, e1, w1, h⟩ := wfl_cons h
  obtain ⟨n1, rfl⟩ := dec_s w1
  obtain ⟨c2, r2, e2, w2, h⟩ := wfl_cons h
  have hrec2 : ∀ l, c2 = .sl l → ∀ y ∈ l, WfL cfg.ty [.i .i64, .s, .sl 34, .sl 9] y → ∃ v : TValue, y = TValue.enc v := fun l hl y hy hw => by
    have hlt : SizeOf.sizeOf y < SizeOf.sizeOf x := by
      have := mem_row_lt hy
      rw [← hl] at this
      subst e0 e1 e2
      simp only [List.cons.sizeOf_spec]
      omega
    exact dec_Value hw
  obtain ⟨n2, rfl⟩ := decC (enc := TValue.enc) ty_Value hrec2 w2
  obtain ⟨c3, r3, e3, w3, h⟩ := wfl_cons h
  obtain ⟨n3, rfl⟩ := decC (enc := S1) tyS (fun l _ y hy hw => dec_S1 hw) w3
  have hn := wfl_nil h
  refine ⟨⟨n0, n1, n2, n3⟩, ?_⟩
  rw [TValue.enc_eq]
  subst hn
  simp only [e0, e1, e2, e3]
termination_by SizeOf.sizeOf x
theorem ty_Arg : cfg.ty 186 = some ⟨.struct, [.s, .i .i64, .s, .sl 34, .sl 9], 88, [(0, 1, false), (1, 4, true)], false⟩ := by kernel_rfl
theorem dec_Arg {x : List DC} (h0 : WfL cfg.ty [.s, .i .i64, .s, .sl 34, .sl 9] x) : ∃ v : TArg, x = TArg.enc v := by
  have h := h0
  obtain ⟨c0, r0, e0, w0, h⟩ := wfl_cons h
  obtain ⟨n0, rfl⟩ := dec_s w0
  obtain ⟨c1, r1, e1, w1, h⟩ := wfl_cons h
  obtain ⟨n1, rfl, _, _⟩ := dec_i w1
  obtain ⟨c2, r2, e2, w2, h⟩ := wfl_cons h
  obtain ⟨n2, rfl⟩ := dec_s w2
  obtain ⟨c3, r3, e3, w3, h⟩ := wfl_cons h
  obtain ⟨n3, rfl⟩ := decC (enc := TValue.enc) ty_Value (fun l _ y hy hw => dec_Value hw) w3
  obtain ⟨c4, r4, e4, w4, h⟩ := wfl_cons h
  obtain ⟨n4, rfl⟩ := decC (enc := S1) tyS (fun l _ y hy hw => dec_S1 hw) w4
  have hn := wfl_nil h
  refine ⟨⟨n0, ⟨n1, n2, n3, n4⟩⟩, ?_⟩
  rw [TArg.enc_eq]
  subst hn
  simp only [e0, e1, e2, e3, e4]
theorem ty_Dir : cfg.ty 146 = some ⟨.struct, [.s, .sl 186], 40, [(0, 1, false), (1, 1, false)], false⟩ := by kernel_rfl
theorem dec_Dir {x : List DC} (h0 : WfL cfg.ty [.s, .sl 186] x) : ∃ v : TDir, x = TDir.enc v := by
  have h := h0
  obtain ⟨c0, r0, e0, w0, h⟩ := wfl_cons h
  obtain ⟨n0, rfl⟩ := dec_s w0
  obtain ⟨c1, r1, e1, w1, h⟩ := wfl_cons h
  obtain ⟨n1, rfl⟩ := decC (enc := TArg.enc) ty_Arg (fun l _ y hy hw => dec_Arg hw) w1
  have hn := wfl_nil h
  refine ⟨⟨n0, n1⟩, ?_⟩
  rw [TDir.enc_eq]
  subst hn
  simp only [e0, e1]
theorem ty_InDef : cfg.ty 37 = some ⟨.struct, [.s, .s, .s, .s, .b, .i .i64, .s, .sl 34, .sl 9, .sl 146], 168, [(0, 1, false), (1, 1, false), (2, 2, true), (4, 1, false), (5, 4, true), (9, 1, false)], false⟩ := by kernel_rfl
theorem dec_InDef {x : List DC} (h0 : WfL cfg.ty [.s, .s, .s, .s, .b, .i .i64, .s, .sl 34, .sl 9, .sl 146] x) : ∃ v : TInDef, x = TInDef.enc v := by
  have h := h0
  obtain ⟨c0, r0, e0, w0, h⟩ := wfl_cons h
  obtain ⟨n0, rfl⟩ := dec_s w0
  obtain ⟨c1, r1, e1, w1, h⟩ := wfl_cons h
  obtain ⟨n1, rfl⟩ := dec_s w1
  obtain ⟨c2, r2, e2, w2, h⟩ := wfl_cons h
  obtain ⟨n2, rfl⟩ := dec_s w2
  obtain ⟨c3, r3, e3, w3, h⟩ := wfl_cons h
  obtain ⟨n3, rfl⟩ := dec_s w3
  obtain ⟨c4, r4, e4, w4, h⟩ := wfl_cons h
  obtain ⟨n4, rfl⟩ := dec_b w4
  obtain ⟨c5, r5, e5, w5, h⟩ := wfl_cons h
  obtain ⟨n5, rfl, _, _⟩ := dec_i w5
  obtain ⟨c6, r6, e6, w6, h⟩ := wfl_cons h
  obtain ⟨n6, rfl⟩ := dec_s w6
  obtain ⟨c7, r7, e7, w7, h⟩ := wfl_cons h
  obtain ⟨n7, rfl⟩ := decC (enc := TValue.enc) ty_Value (fun l _ y hy hw => dec_Value hw) w7
  obtain ⟨c8, r8, e8, w8, h⟩ := wfl_cons h
  obtain ⟨n8, rfl⟩ := decC (enc := S1) tyS (fun l _ y hy hw => dec_S1 hw) w8
  obtain ⟨c9, r9, e9, w9, h⟩ := wfl_cons h
  obtain ⟨n9, rfl⟩ := decC (enc := TDir.enc) ty_Dir (fun l _ y hy hw => dec_Dir hw) w9
  have hn := wfl_nil h
  refine ⟨⟨n0, n1, ⟨n2, n3⟩, n4, ⟨n5, n6, n7, n8⟩, n9⟩, ?_⟩
  rw [TInDef.enc_eq]
  subst hn
  simp only [e0, e1, e2, e3, e4, e5, e6, e7, e8, e9]
theorem dec_FieldDef {x : List DC} (h0 : WfL cfg.ty [.s, .s, .sl 37, .s, .s, .sl 146] x) : ∃ v : TFieldDef, x = TFieldDef.enc v := by
  have h := h0
  obtain ⟨c0, r0, e0, w0, h⟩ := wfl_cons h
  obtain ⟨n0, rfl⟩ := dec_s w0
  obtain ⟨c1, r1, e1, w1, h⟩ := wfl_cons h
  obtain ⟨n1, rfl⟩ := dec_s w1
  obtain ⟨c2, r2, e2, w2, h⟩ := wfl_cons h
  obtain ⟨n2, rfl⟩ := decC (enc := TInDef.enc) ty_InDef (fun l _ y hy hw => dec_InDef hw) w2
  obtain ⟨c3, r3, e3, w3, h⟩ := wfl_cons h
  obtain ⟨n3, rfl⟩ := dec_s w3
  obtain ⟨c4, r4, e4, w4, h⟩ := wfl_cons h
  obtain ⟨n4, rfl⟩ := dec_s w4
  obtain ⟨c5, r5, e5, w5, h⟩ := wfl_cons h
  obtain ⟨n5, rfl⟩ := decC (enc := TDir.enc) ty_Dir (fun l _ y hy hw => dec_Dir hw) w5
  have hn := wfl_nil h
  refine ⟨⟨n0, n1, n2, ⟨n3, n4⟩, n5⟩, ?_⟩
  rw [TFieldDef.enc_eq]
  subst hn
  simp only [e0, e1, e2, e3, e4, e5]
theorem wfl_app {ty : Nat → Option TI} : ∀ {ts1 ts2 : List CT} {x : List DC}, WfL ty (ts1 ++ ts2) x → ∃ y z, x = y ++ z ∧ WfL ty ts1 y ∧ WfL ty ts2 z
  | [], ts2, x, h => ⟨[], x, rfl, .nil, h⟩
  | t :: ts1, ts2, x, h => by
    obtain ⟨c, xs, rfl, h1, h2⟩ := wfl_cons h
    obtain ⟨y, z, rfl, h3, h4⟩ := wfl_app h2
    exact ⟨c :: y, z, rfl, .cons _ _ _ _ h1 h3, h4⟩
theorem law_FnExactFieldText (d : List DC) (hd : WfL cfg.ty [.s, .s, .sl 37, .s, .s, .sl 146] d) : r_laws_FnExactFieldText d = .ret [.b true] := by
  obtain ⟨y0, z0, e0, w0, hd⟩ := wfl_app (ts1 := [.s, .s, .sl 37, .s, .s, .sl 146]) (ts2 := []) hd
  have hz := wfl_nil hd
  have k0 := wfl_ok w0
  obtain ⟨a0, g0⟩ := dec_FieldDef w0
  subst g0
  subst hz
  subst e0
  rw [eq_laws_FnExactFieldText]
  simp only [E_laws_FnExactFieldText, TFieldDef.enc_eq, List.cons_append, List.nil_append, List.append_nil, List.getD_cons_zero, List.getD_cons_succ, DC.bb_b, DC.ii_i, DC.ss_s, DC.ll_sl]
  rw [sz_FieldDef a0 k0 (1048576) (by omega) (by omega)]
  simp only [Out.bindR_ret, List.getD_cons_zero, List.getD_cons_succ, DC.bb_b, DC.ii_i, DC.ss_s, DC.ll_sl]
  by_cases s0 : (1048576 : Int) < ((wtL (TFieldDef.enc a0) : Nat) : Int)
  · rw [szR_lt s0]
    rfl
  rw [szR_ge s0]
  have s0' : ¬ (1048576 : Int) - ((wtL (TFieldDef.enc a0) : Nat) : Int) < 0 := by omega
  simp only [s0', decide_false, Bool.false_eq_true, if_false]
  have W0 : wtL (TFieldDef.enc a0) ≤ 1048576 := by omega
  have l0_args : a0.args.length ≤ 1048576 := by have h := W0; simp only [TFieldDef.enc_eq, wtL, DC.wt, List.length_map] at h; omega
  have l0_dirs : a0.dirs.length ≤ 1048576 := by have h := W0; simp only [TFieldDef.enc_eq, wtL, DC.wt, List.length_map] at h; omega
  have hs := spec_FieldText a0 W0
  have hi := impl_FieldText a0 W0
  simp only [to_FieldDef a0 W0, eq_FieldDef a0 W0, hs, hi, TFieldDef.enc_eq, List.getD_cons_zero, List.getD_cons_succ, DC.bb_b, DC.ii_i, DC.ss_s, DC.ll_sl, Out.bindR_ret, bne_self_eq_false, beq_self_eq_true, Bool.not_true, Bool.false_eq_true, if_false]
end Go.Proofs.QV
