import Derived.Test.YtjojjfebgfhcmaaGreatDoorMT8
import Derived.Shelf.Strings.Repeat
import Derived.Test.YtjojjfebgfhcmaaGreatDoorMT7
import Derived.Test.YtjojjfebgfhcmaaGreatDoorMT6
/- Selections: the program prints what the reference prints (written by a program in part). -/
namespace Go.Proofs.QV
open Go
set_option linter.unusedVariables false
set_option linter.unusedSimpArgs false
set_option maxRecDepth 100000
noncomputable def descOk (s : List UInt8) : Bool := s == [] || !(escaped s == [])
theorem spec_l13Desc (s : List UInt8) (hs : s.length ≤ 1048576) : r_spec_l13Desc [.s s] = .ret [.b (descOk s)] := by
  rw [eq_spec_l13Desc]
  simp only [E_spec_l13Desc, zz0, zz1, zb, zi, zs, zl, spec_Escaped s hs, zr, descOk]
  cases (s == ([] : List UInt8)) <;> simp
theorem impl_descOk (s : List UInt8) (hs : s.length ≤ 1048576) : r_impl_descOk [.s s] = .ret [.b (descOk s)] := by
  rw [eq_impl_descOk]
  simp only [E_impl_descOk, zz0, zz1, zb, zi, zs, zl, impl_Escaped s hs, zr, descOk]
  cases (s == ([] : List UInt8)) <;> simp
noncomputable def inOk (v : TInDef) : Bool := nameOk v.name && (descOk v.desc && (typeOk v.type'.name v.type'.wraps && (defOk v.has' v.default' && constsOk v.dirs)))
theorem in_wt (v : TInDef) : wtL v.enc = v.name.length + v.desc.length + v.type'.name.length + v.type'.wraps.length + wtL v.default'.enc + DC.wt (.sl (v.dirs.map TDir.enc)) := by
  rw [TInDef.enc_eq, TValue.enc_eq]
  simp only [wtL, DC.wt]
  omega
theorem spec_l13In (v : TInDef) (hw : wtL v.enc ≤ 1048576) : r_spec_l13In [.s v.name, .s v.desc, .s v.type'.name, .s v.type'.wraps, .b v.has', .i v.default'.kind, .s v.default'.text, .sl (v.default'.items.map TValue.enc), .sl (v.default'.names.map S1), .sl (v.dirs.map TDir.enc)] = .ret [.b (inOk v)] := by
  rw [in_wt] at hw
  rw [eq_spec_l13In]
  simp only [E_spec_l13In, zz0, zz1, zb, zi, zs, zl, spec_NameOk v.name (by omega), spec_l13Desc v.desc (by omega), spec_TypeOk v.type'.name v.type'.wraps (by omega) (by omega), spec_l12Default v.has' v.default' (by omega), spec_l12Consts v.dirs (by omega), zr, inOk]
  generalize nameOk v.name = p1
  generalize descOk v.desc = p2
  generalize typeOk v.type'.name v.type'.wraps = p3
  generalize defOk v.has' v.default' = p4
  generalize constsOk v.dirs = p5
  cases p1 <;> cases p2 <;> cases p3 <;> cases p4 <;> simp
theorem impl_inOk (v : TInDef) (hw : wtL v.enc ≤ 1048576) : r_impl_inOk [.s v.name, .s v.desc, .s v.type'.name, .s v.type'.wraps, .b v.has', .i v.default'.kind, .s v.default'.text, .sl (v.default'.items.map TValue.enc), .sl (v.default'.names.map S1), .sl (v.dirs.map TDir.enc)] = .ret [.b (inOk v)] := by
  rw [in_wt] at hw
  rw [eq_impl_inOk]
  simp only [E_impl_inOk, zz0, zz1, zb, zi, zs, zl, impl_NameOk v.name (by omega), impl_descOk v.desc (by omega), impl_TypeOk v.type'.name v.type'.wraps (by omega) (by omega), impl_defaultOk v.has' v.default' (by omega), impl_constDirs v.dirs (by omega), zr, inOk]
  generalize nameOk v.name = p1
  generalize descOk v.desc = p2
  generalize typeOk v.type'.name v.type'.wraps = p3
  generalize defOk v.has' v.default' = p4
  generalize constsOk v.dirs = p5
  cases p1 <;> cases p2 <;> cases p3 <;> cases p4 <;> simp
noncomputable def insOk (l : List TInDef) : Bool := l.all inOk
theorem cf_impl_insOk_1 (ok : TInDef → Bool) (l : List TInDef) (hl : l.length ≤ 1048576) (hc : ∀ x ∈ l, r_impl_insOk_1 [.s x.name, .s x.desc, .s x.type'.name, .s x.type'.wraps, .b x.has', .i x.default'.kind, .s x.default'.text, .sl (x.default'.items.map TValue.enc), .sl (x.default'.names.map S1), .sl (x.dirs.map TDir.enc)] = .ret [.b (!ok x)]) : r_slices_ContainsFunc_impl_InDef__impl_insOk_1 [.sl (l.map TInDef.enc)] = .ret [.b (!(l.all ok))] := by
  rw [eq_slices_ContainsFunc_impl_InDef__impl_insOk_1]
  simp only [E_slices_ContainsFunc_impl_InDef__impl_insOk_1, zz0, zl]
  rw [eq_slices_IndexFunc_impl_InDef__impl_insOk_1]
  simp only [E_slices_IndexFunc_impl_InDef__impl_insOk_1, zz0, zl, zm]
  rw [show (0 : Int) = ((0 : Nat) : Int) from rfl, Loop_find0 (l := l) (st := fun i => [.sl (l.map TInDef.enc), .i (l.length : Int), .i (i : Int)]) (p := fun n => !ok n) (stop := fun i _ => .ret [.i (i : Int)]) (fin := .ex 0 []) (fun i hi => ?step) (fun _ _ => Out.esc_ret _) ?fin (Out.esc_ex _ _), goF_idx]
  · rw [List.not_all_eq_any_not]
    cases hf : l.findIdx? fun n => !ok n with
    | none =>
      have : (l.any fun n => !ok n) = false := by
        rw [List.any_eq_false]
        intro x hx
        have := List.findIdx?_eq_none_iff.1 hf x hx
        simpa using this
      rw [this]
      simp
    | some j =>
      obtain ⟨hj, h1, h2⟩ := List.findIdx?_eq_some_iff_getElem.1 hf
      have : (l.any fun n => !ok n) = true := List.any_eq_true.2 ⟨l[j], List.getElem_mem hj, h1⟩
      rw [this]
      simp [hj]
  case step =>
    have c2 : 0 ≤ (i : Int) ∧ (i : Int) < (l.length : Int) := by omega
    have d : decide ((i : Int) < (l.length : Int)) = true := decide_eq_true (by omega)
    have he : r_impl_insOk_1 [.s l[i].name, .s l[i].desc, .s l[i].type'.name, .s l[i].type'.wraps, .b l[i].has', .i l[i].default'.kind, .s l[i].default'.text, .sl (l[i].default'.items.map TValue.enc), .sl (l[i].default'.names.map S1), .sl (l[i].dirs.map TDir.enc)] = .ret [.b (!ok l[i])] := hc _ (List.getElem_mem hi)
    simp only [E_slices_IndexFunc_impl_InDef__impl_insOk_1L1, zz0, zz1, zb, zi, zs, zl, Int.toNat_natCast, zm, map_getD hi, TInDef.enc_eq, d, c2, he, zr, true_and, and_self, if_true]
    cases ok l[i] <;> simp [wrap_succ hi (show l.length ≤ 9223372036854775807 by omega)]
  case fin => simp [E_slices_IndexFunc_impl_InDef__impl_insOk_1L1]
theorem impl_insOk (l : List TInDef) (hw : DC.wt (.sl (l.map TInDef.enc)) ≤ 1048576) : r_impl_insOk [.sl (l.map TInDef.enc)] = .ret [.b (insOk l)] := by
  obtain ⟨hl, hx⟩ := sl_wt hw
  rw [eq_impl_insOk]
  simp only [E_impl_insOk, zz0, zz1, zb, zi, zs, zl]
  rw [cf_impl_insOk_1 inOk l hl fun x hm => by
    rw [eq_impl_insOk_1]
    simp only [E_impl_insOk_1, zz0, zz1, zb, zi, zs, zl, impl_inOk x (hx x hm), zr]]
  simp only [zr, zz0, zz1, zb, zi, zs, zl, Bool.not_not, insOk]
theorem spec_l13Ins (l : List TInDef) (hw : DC.wt (.sl (l.map TInDef.enc)) ≤ 1048576) : r_spec_l13Ins [.sl (l.map TInDef.enc)] = .ret [.b (insOk l)] := by
  obtain ⟨hl, hx⟩ := sl_wt hw
  rw [eq_spec_l13Ins]
  simp only [E_spec_l13Ins, zz0, zz1, zb, zi, zs, zl]
  have hlp : Loop E_spec_l13InsL1 [.sl (l.map TInDef.enc), .i 0] = if l.all inOk = true then .ex 0 [] else .ret [.b false] := by
    rw [show (0 : Int) = ((0 : Nat) : Int) from rfl, Loop_find0 (l := l) (st := fun i => [.sl (l.map TInDef.enc), .i (i : Int)]) (p := fun x => !inOk x) (stop := fun i _ => .ret [.b false]) (fin := .ex 0 []) (fun i hi => ?step) (fun _ _ => Out.esc_ret _) ?fin (Out.esc_ex _ _), goF_any]
    · rw [show (l.any fun x => !inOk x) = !(l.all inOk) by rw [List.not_all_eq_any_not]]
      cases l.all inOk <;> simp
    case step =>
      have hx := spec_l13In l[i] (hx _ (List.getElem_mem hi))
      have c2 : 0 ≤ (i : Int) ∧ (i : Int) < (l.length : Int) := by omega
      have d : decide ((i : Int) < (l.length : Int)) = true := decide_eq_true (by omega)
      simp only [E_spec_l13InsL1, zz0, zz1, zb, zi, zs, zl, Int.toNat_natCast, zm, map_getD hi, d, c2, TInDef.enc_eq, hx, zr, true_and, and_self, if_true, decide_true]
      rcases zt (inOk l[i]) with q | q <;> simp [q, wrap_succ hi (show l.length ≤ 9223372036854775807 by omega)]
    case fin => simp [E_spec_l13InsL1]
  rw [hlp]
  unfold insOk
  cases l.all inOk <;> simp
noncomputable def fieldOk (v : TFieldDef) : Bool := nameOk v.name && (descOk v.desc && (typeOk v.type'.name v.type'.wraps && (insOk v.args && constsOk v.dirs)))
theorem field_wt (v : TFieldDef) : wtL v.enc = v.name.length + v.desc.length + DC.wt (.sl (v.args.map TInDef.enc)) + v.type'.name.length + v.type'.wraps.length + DC.wt (.sl (v.dirs.map TDir.enc)) := by
  rw [TFieldDef.enc_eq]
  simp only [wtL]
  simp only [DC.wt]
  omega
theorem spec_l13Field (v : TFieldDef) (hw : wtL v.enc ≤ 1048576) : r_spec_l13Field [.s v.name, .s v.desc, .sl (v.args.map TInDef.enc), .s v.type'.name, .s v.type'.wraps, .sl (v.dirs.map TDir.enc)] = .ret [.b (fieldOk v)] := by
  rw [field_wt] at hw
  rw [eq_spec_l13Field]
  simp only [E_spec_l13Field, zz0, zz1, zb, zi, zs, zl, spec_NameOk v.name (by omega), spec_l13Desc v.desc (by omega), spec_TypeOk v.type'.name v.type'.wraps (by omega) (by omega), spec_l13Ins v.args (by omega), spec_l12Consts v.dirs (by omega), zr, fieldOk]
  generalize nameOk v.name = p1
  generalize descOk v.desc = p2
  generalize typeOk v.type'.name v.type'.wraps = p3
  generalize insOk v.args = p4
  generalize constsOk v.dirs = p5
  cases p1 <;> cases p2 <;> cases p3 <;> cases p4 <;> cases p5 <;> simp
theorem impl_fieldOk (v : TFieldDef) (hw : wtL v.enc ≤ 1048576) : r_impl_fieldOk [.s v.name, .s v.desc, .sl (v.args.map TInDef.enc), .s v.type'.name, .s v.type'.wraps, .sl (v.dirs.map TDir.enc)] = .ret [.b (fieldOk v)] := by
  rw [field_wt] at hw
  rw [eq_impl_fieldOk]
  simp only [E_impl_fieldOk, zz0, zz1, zb, zi, zs, zl, impl_NameOk v.name (by omega), impl_descOk v.desc (by omega), impl_TypeOk v.type'.name v.type'.wraps (by omega) (by omega), impl_insOk v.args (by omega), impl_constDirs v.dirs (by omega), zr, fieldOk]
  generalize nameOk v.name = p1
  generalize descOk v.desc = p2
  generalize typeOk v.type'.name v.type'.wraps = p3
  generalize insOk v.args = p4
  generalize constsOk v.dirs = p5
  cases p1 <;> cases p2 <;> cases p3 <;> cases p4 <;> cases p5 <;> simp
theorem spec_TypeText (n w : List UInt8) (hn : n.length ≤ 1048576) (hg : typeOk n w = true) : r_spec_TypeText [.s n, .s w] = .ret [.s (typeT n w)] := by
  have hw8 : w.length ≤ 8 := by
    unfold typeOk at hg
    simp only [Bool.and_eq_true, decide_eq_true_eq] at hg
    exact hg.2.1
  have hk := spec_TypeOk n w hn (by omega)
  rw [hg] at hk
  have h := Loop_upto (F := E_spec_TypeTextL1) (st := fun i => [.s (typeT n (w.take i)), .i (i : Int), .s n, .s w]) (o := .ex 0 [.s (typeT n w)]) w.length 0 (fun j _ hj => ?step) ?fin
  case step =>
    have hj : j < w.length := by omega
    have hl := type_len (w.take j) n
    rw [List.length_take] at hl
    have hg' : w.getD j 0 = w[j] := by rw [List.getD_eq_getElem?_getD, List.getElem?_eq_getElem hj]; rfl
    have c2 : 0 ≤ (j : Int) ∧ (j : Int) < (w.length : Int) := by omega
    have d : decide ((j : Int) < (w.length : Int)) = true := decide_eq_true (by omega)
    have wi := wrap_succ hj (show w.length ≤ 9223372036854775807 by omega)
    have hu : ((w[j].toNat : Int) == 33) = (w[j] == 33) := u8_eq w[j] 33 (by omega)
    have ht : typeT n (w.take (j + 1)) = wrapT (typeT n (w.take j)) w[j] := by
      unfold typeT
      rw [← List.take_append_getElem hj, List.foldl_append]
      rfl
    try dsimp only
    rw [ht]
    unfold wrapT
    by_cases hc : w[j] = 33
    · have hb : (w[j] == 33) = true := beq_iff_eq.2 hc
      rw [if_pos hc]
      simp (disch := first | omega | (simp only [List.length_append, List.length_cons, List.length_nil, brows_len, LIM] <;> omega) | fail) only [E_spec_TypeTextL1, zz0, zz1, zb, zi, zs, zl, bytesRow_eq, brows_app', brows_len, List.length_append, List.length_cons, List.length_nil, LIM, if_true, if_false, zf, zr, Out.andThen_norm, Out.andThenB_ret, Out.andThenB_norm, Out.andThenB_ex, if_pos, Int.toNat_natCast, zm, true_and, and_self, decide_true, bs, hg', hu, hb, d, c2, wi]
    · have hb : (w[j] == 33) = false := beq_eq_false_iff_ne.2 hc
      rw [if_neg hc]
      simp (disch := first | omega | (simp only [List.length_append, List.length_cons, List.length_nil, brows_len, LIM] <;> omega) | fail) only [E_spec_TypeTextL1, zz0, zz1, zb, zi, zs, zl, bytesRow_eq, brows_app', brows_len, List.length_append, List.length_cons, List.length_nil, LIM, if_true, if_false, zf, zr, Out.andThen_norm, Out.andThenB_ret, Out.andThenB_norm, Out.andThenB_ex, if_pos, Int.toNat_natCast, zm, true_and, and_self, decide_true, bs, hg', hu, hb, d, c2, wi]
      rfl
  case fin =>
    refine Loop_ex ?_
    try dsimp only
    rw [Nat.zero_add, List.take_length]
    simp [E_spec_TypeTextL1]
  rw [List.take_zero, Int.natCast_zero] at h
  rw [eq_spec_TypeText]
  have h' : typeT n [] = n := rfl
  rw [h'] at h
  simp only [E_spec_TypeText, zz0, zz1, zb, zi, zs, zl, hk, Bool.not_true, zf, if_false, if_true, zr, h, Out.andThenB_ex]
theorem impl_TypeText (n w : List UInt8) (hn : n.length ≤ 1048576) (hg : typeOk n w = true) : r_impl_TypeText [.s n, .s w] = .ret [.s (typeT n w)] := by
  have hw8 : w.length ≤ 8 := by
    unfold typeOk at hg
    simp only [Bool.and_eq_true, decide_eq_true_eq] at hg
    exact hg.2.1
  have hk := impl_TypeOk n w hn (by omega)
  rw [hg] at hk
  have h := Loop_upto (F := E_impl_TypeTextL1) (st := fun i => [.s (typeT n (w.take i)), .i (w.length : Int), .i (i : Int), .s n, .s w]) (o := .ex 0 [.s (typeT n w)]) w.length 0 (fun j _ hj => ?step) ?fin
  case step =>
    have hj : j < w.length := by omega
    have hl := type_len (w.take j) n
    rw [List.length_take] at hl
    have hg' : w.getD j 0 = w[j] := by rw [List.getD_eq_getElem?_getD, List.getElem?_eq_getElem hj]; rfl
    have c2 : 0 ≤ (j : Int) ∧ (j : Int) < (w.length : Int) := by omega
    have d : decide ((j : Int) < (w.length : Int)) = true := decide_eq_true (by omega)
    have wi := wrap_succ hj (show w.length ≤ 9223372036854775807 by omega)
    have hu : ((w[j].toNat : Int) == 33) = (w[j] == 33) := u8_eq w[j] 33 (by omega)
    have ht : typeT n (w.take (j + 1)) = wrapT (typeT n (w.take j)) w[j] := by
      unfold typeT
      rw [← List.take_append_getElem hj, List.foldl_append]
      rfl
    try dsimp only
    rw [ht]
    unfold wrapT
    by_cases hc : w[j] = 33
    · have hb : (w[j] == 33) = true := beq_iff_eq.2 hc
      rw [if_pos hc]
      simp (disch := first | omega | (simp only [List.length_append, List.length_cons, List.length_nil, brows_len, LIM] <;> omega) | fail) only [E_impl_TypeTextL1, zz0, zz1, zb, zi, zs, zl, bytesRow_eq, brows_app', brows_len, List.length_append, List.length_cons, List.length_nil, LIM, if_true, if_false, zf, zr, Out.andThen_norm, Out.andThenB_ret, Out.andThenB_norm, Out.andThenB_ex, if_pos, Int.toNat_natCast, zm, true_and, and_self, decide_true, bs, hg', hu, hb, d, c2, wi]
    · have hb : (w[j] == 33) = false := beq_eq_false_iff_ne.2 hc
      rw [if_neg hc]
      simp (disch := first | omega | (simp only [List.length_append, List.length_cons, List.length_nil, brows_len, LIM] <;> omega) | fail) only [E_impl_TypeTextL1, zz0, zz1, zb, zi, zs, zl, bytesRow_eq, brows_app', brows_len, List.length_append, List.length_cons, List.length_nil, LIM, if_true, if_false, zf, zr, Out.andThen_norm, Out.andThenB_ret, Out.andThenB_norm, Out.andThenB_ex, if_pos, Int.toNat_natCast, zm, true_and, and_self, decide_true, bs, hg', hu, hb, d, c2, wi]
      rfl
  case fin =>
    refine Loop_ex ?_
    try dsimp only
    rw [Nat.zero_add, List.take_length]
    simp [E_impl_TypeTextL1]
  rw [List.take_zero, Int.natCast_zero] at h
  rw [eq_impl_TypeText]
  have h' : typeT n [] = n := rfl
  rw [h'] at h
  simp only [E_impl_TypeText, zz0, zz1, zb, zi, zs, zl, hk, Bool.not_true, zf, if_false, if_true, zr, h, Out.andThenB_ex]
def defaultT (has : Bool) (v : TValue) : List UInt8 := if has = true then [32, 61, 32] ++ valT v else []
theorem impl_defaultText (has : Bool) (v : TValue) (hw : wtL v.enc ≤ 1048576) (hg : defOk has v = true) : r_impl_defaultText [.b has, .i v.kind, .s v.text, .sl (v.items.map TValue.enc), .sl (v.names.map S1)] = .ret [.s (defaultT has v)] := by
  rw [eq_impl_defaultText]
  unfold defaultT
  cases has with
  | false => simp [E_impl_defaultText]
  | true =>
    have hv : valOk v = true := by
      simp only [defOk, if_true, Bool.and_eq_true] at hg
      exact hg.1
    have h1 := impl_ValueOk v hw
    rw [hv] at h1
    have h2 := impl_printValue v hw 10 (by omega) (by omega) hv
    have hl := valT_len v
    have h3 : r_impl_ValueText [.i v.kind, .s v.text, .sl (v.items.map TValue.enc), .sl (v.names.map S1)] = .ret [.s (valT v)] := by
      rw [eq_impl_ValueText]
      simp only [E_impl_ValueText, zz0, zz1, zb, zi, zs, zl, h1, h2, zr, Bool.not_true, zf, if_false]
    simp (disch := first | omega | (simp only [List.length_append, List.length_cons, List.length_nil, brows_len, LIM] <;> omega) | fail) only [E_impl_defaultText, zz0, zz1, zb, zi, zs, zl, bytesRow_eq, brows_app', brows_len, List.length_append, List.length_cons, List.length_nil, LIM, if_true, if_false, zf, zr, Out.andThen_norm, Out.andThenB_ret, Out.andThenB_norm, Out.andThenB_ex, if_pos, Int.toNat_natCast, zm, true_and, and_self, decide_true, bs, h3, Bool.not_true]
theorem default_len (has : Bool) (v : TValue) : (defaultT has v).length ≤ 8 * wtL v.enc + 5 := by
  have := valT_len v
  unfold defaultT
  split
  · simp only [List.length_append, List.length_cons, List.length_nil]; omega
  · simp
def inT (v : TInDef) : List UInt8 := (if v.desc = [] then [] else escaped v.desc ++ [32]) ++ (v.name ++ ([58, 32] ++ (typeT v.type'.name v.type'.wraps ++ (defaultT v.has' v.default' ++ dirsT v.dirs))))
theorem in_facts {v : TInDef} (h : inOk v = true) : typeOk v.type'.name v.type'.wraps = true ∧ defOk v.has' v.default' = true ∧ dirsOk v.dirs = true ∧ v.type'.wraps.length ≤ 8 := by
  simp only [inOk, constsOk, typeOk, Bool.and_eq_true, decide_eq_true_eq] at h ⊢
  exact ⟨h.2.2.1, h.2.2.2.1, h.2.2.2.2.1, h.2.2.1.2.1⟩
theorem in_len (v : TInDef) (h : inOk v = true) : (inT v).length ≤ 8 * wtL v.enc + 30 := by
  have h1 := escaped_len v.desc
  have h2 := type_len v.type'.wraps v.type'.name
  have h3 := default_len v.has' v.default'
  have h4 := dirs_len v.dirs
  have h5 := (in_facts h).2.2.2
  rw [in_wt]
  unfold inT
  simp only [List.length_append, List.length_cons, List.length_nil]
  split
  · simp only [List.length_nil]; omega
  · simp only [List.length_append, List.length_cons, List.length_nil]; omega
theorem spec_l13SayIn (v : TInDef) (hw : wtL v.enc ≤ 1048576) (hg : inOk v = true) (out : List UInt8) (ho : out.length + (inT v).length < 1073741824) : r_spec_l13SayIn [.sl (brows out), .s v.name, .s v.desc, .s v.type'.name, .s v.type'.wraps, .b v.has', .i v.default'.kind, .s v.default'.text, .sl (v.default'.items.map TValue.enc), .sl (v.default'.names.map S1), .sl (v.dirs.map TDir.enc)] = .ret [.sl (brows (out ++ inT v))] := by
  obtain ⟨g1, g2, g3, g4⟩ := in_facts hg
  rw [in_wt] at hw
  have hE := spec_Escaped v.desc (by omega)
  have hT := spec_TypeText v.type'.name v.type'.wraps (by omega) g1
  have hD := spec_l10SayDirs v.dirs (by omega) g3
  unfold inT at ho ⊢
  simp only [List.length_append, List.length_cons, List.length_nil] at ho
  rw [eq_spec_l13SayIn]
  by_cases kd : v.desc = []
  · have cd : (v.desc == ([] : List UInt8)) = true := beq_iff_eq.2 kd
    rw [if_pos kd] at ho ⊢
    simp only [List.length_nil] at ho
    cases hh : v.has' with
    | false =>
      rw [hh] at ho
      simp only [defaultT, zf, if_false, List.length_nil] at ho ⊢
      simp (disch := first | omega | (simp only [List.length_append, List.length_cons, List.length_nil, brows_len, LIM] <;> omega) | fail) only [E_spec_l13SayIn, zz0, zz1, zb, zi, zs, zl, bytesRow_eq, brows_app', brows_len, List.length_append, List.length_cons, List.length_nil, LIM, if_true, if_false, zf, zr, Out.andThen_norm, Out.andThenB_ret, Out.andThenB_norm, Out.andThenB_ex, if_pos, Int.toNat_natCast, zm, true_and, and_self, decide_true, bs, cd, hE, hT, hD, Bool.not_true, Bool.not_false]
      simp
    | true =>
      rw [hh] at ho g2
      have hv : valOk v.default' = true := by
        simp only [defOk, if_true, Bool.and_eq_true] at g2
        exact g2.1
      have hV := spec_l07Say v.default' (by omega) 10 (by omega) (by omega) hv
      simp only [defaultT, if_true, List.length_append, List.length_cons, List.length_nil] at ho ⊢
      simp (disch := first | omega | (simp only [List.length_append, List.length_cons, List.length_nil, brows_len, LIM] <;> omega) | fail) only [E_spec_l13SayIn, zz0, zz1, zb, zi, zs, zl, bytesRow_eq, brows_app', brows_len, List.length_append, List.length_cons, List.length_nil, LIM, if_true, if_false, zf, zr, Out.andThen_norm, Out.andThenB_ret, Out.andThenB_norm, Out.andThenB_ex, if_pos, Int.toNat_natCast, zm, true_and, and_self, decide_true, bs, cd, hE, hT, hD, hV, Bool.not_true, Bool.not_false]
      simp
  · have cd : (v.desc == ([] : List UInt8)) = false := beq_eq_false_iff_ne.2 kd
    rw [if_neg kd] at ho ⊢
    simp only [List.length_append, List.length_cons, List.length_nil] at ho
    cases hh : v.has' with
    | false =>
      rw [hh] at ho
      simp only [defaultT, zf, if_false, List.length_nil] at ho ⊢
      simp (disch := first | omega | (simp only [List.length_append, List.length_cons, List.length_nil, brows_len, LIM] <;> omega) | fail) only [E_spec_l13SayIn, zz0, zz1, zb, zi, zs, zl, bytesRow_eq, brows_app', brows_len, List.length_append, List.length_cons, List.length_nil, LIM, if_true, if_false, zf, zr, Out.andThen_norm, Out.andThenB_ret, Out.andThenB_norm, Out.andThenB_ex, if_pos, Int.toNat_natCast, zm, true_and, and_self, decide_true, bs, cd, hE, hT, hD, Bool.not_true, Bool.not_false]
      simp
    | true =>
      rw [hh] at ho g2
      have hv : valOk v.default' = true := by
        simp only [defOk, if_true, Bool.and_eq_true] at g2
        exact g2.1
      have hV := spec_l07Say v.default' (by omega) 10 (by omega) (by omega) hv
      simp only [defaultT, if_true, List.length_append, List.length_cons, List.length_nil] at ho ⊢
      simp (disch := first | omega | (simp only [List.length_append, List.length_cons, List.length_nil, brows_len, LIM] <;> omega) | fail) only [E_spec_l13SayIn, zz0, zz1, zb, zi, zs, zl, bytesRow_eq, brows_app', brows_len, List.length_append, List.length_cons, List.length_nil, LIM, if_true, if_false, zf, zr, Out.andThen_norm, Out.andThenB_ret, Out.andThenB_norm, Out.andThenB_ex, if_pos, Int.toNat_natCast, zm, true_and, and_self, decide_true, bs, cd, hE, hT, hD, hV, Bool.not_true, Bool.not_false]
      simp
noncomputable def inText (v : TInDef) : List UInt8 := if inOk v = true then inT v else []
theorem impl_InText (v : TInDef) (hw : wtL v.enc ≤ 1048576) : r_impl_InText [.s v.name, .s v.desc, .s v.type'.name, .s v.type'.wraps, .b v.has', .i v.default'.kind, .s v.default'.text, .sl (v.default'.items.map TValue.enc), .sl (v.default'.names.map S1), .sl (v.dirs.map TDir.enc)] = .ret [.s (inText v)] := by
  have hk := impl_inOk v hw
  rw [eq_impl_InText]
  unfold inText
  cases hg : inOk v with
  | false => rw [hg] at hk; simp only [E_impl_InText, zz0, zz1, zb, zi, zs, zl, hk, zr, Bool.not_false, if_true, zf, if_false]
  | true =>
    have hl := in_len v hg
    have hl2 : (inT v).length ≤ 8388638 := by omega
    clear hl
    obtain ⟨g1, g2, g3, g4⟩ := in_facts hg
    rw [in_wt] at hw
    have hE := impl_Escaped v.desc (by omega)
    have hT := impl_TypeText v.type'.name v.type'.wraps (by omega) g1
    have hV := impl_defaultText v.has' v.default' (by omega) g2
    have hD := impl_DirsText v.dirs (by omega) g3
    rw [hg] at hk
    unfold inT at hl2 ⊢
    simp only [List.length_append, List.length_cons, List.length_nil] at hl2
    by_cases kd : v.desc = []
    · have cd : (v.desc == ([] : List UInt8)) = true := beq_iff_eq.2 kd
      rw [if_pos kd] at hl2 ⊢
      simp only [List.length_nil] at hl2
      simp (disch := first | omega | (simp only [List.length_append, List.length_cons, List.length_nil, brows_len, LIM] <;> omega) | fail) only [E_impl_InText, zz0, zz1, zb, zi, zs, zl, bytesRow_eq, brows_app', brows_len, List.length_append, List.length_cons, List.length_nil, LIM, if_true, if_false, zf, zr, Out.andThen_norm, Out.andThenB_ret, Out.andThenB_norm, Out.andThenB_ex, if_pos, Int.toNat_natCast, zm, true_and, and_self, decide_true, bs, hk, cd, hE, hT, hV, hD, Bool.not_true, Bool.not_false]
      simp
    · have cd : (v.desc == ([] : List UInt8)) = false := beq_eq_false_iff_ne.2 kd
      rw [if_neg kd] at hl2 ⊢
      simp only [List.length_append, List.length_cons, List.length_nil] at hl2
      simp (disch := first | omega | (simp only [List.length_append, List.length_cons, List.length_nil, brows_len, LIM] <;> omega) | fail) only [E_impl_InText, zz0, zz1, zb, zi, zs, zl, bytesRow_eq, brows_app', brows_len, List.length_append, List.length_cons, List.length_nil, LIM, if_true, if_false, zf, zr, Out.andThen_norm, Out.andThenB_ret, Out.andThenB_norm, Out.andThenB_ex, if_pos, Int.toNat_natCast, zm, true_and, and_self, decide_true, bs, hk, cd, hE, hT, hV, hD, Bool.not_true, Bool.not_false]
      simp
def insT (l : List TInDef) : List UInt8 := jt [40] [44, 32] inT l ++ (if l.isEmpty then [] else [41])
theorem insT_cons (x : TInDef) (l : List TInDef) : insT (x :: l) = 40 :: (Lib.join ((x :: l).map inT) [44, 32] ++ [41]) := by
  rw [insT, jt_cons]
  rfl
theorem ins_each {l : List TInDef} (h : insOk l = true) : ∀ x ∈ l, inOk x = true := fun x hx => List.all_eq_true.1 h x hx
theorem ins_len (l : List TInDef) (h : insOk l = true) : (insT l).length ≤ 40 * DC.wt (.sl (l.map TInDef.enc)) := by
  cases l with
  | nil => simp [insT, jt]
  | cons x l =>
    have h1 := join_len ((x :: l).map inT)
    have h2 := sum_wtV (enc := TInDef.enc) (f := inT) (a := 8) (b := 30) (x :: l) fun y hy => in_len y (ins_each h y hy)
    rw [insT_cons, DC.wt]
    rw [zm] at h1
    simp only [List.length_cons, List.length_append, List.length_nil, zm] at h1 h2 ⊢
    omega
theorem spec_l13SayIns (l : List TInDef) (hw : DC.wt (.sl (l.map TInDef.enc)) ≤ 1048576) (hg : insOk l = true) (out : List UInt8) (ho : out.length + (insT l).length < 1073741824) :
    r_spec_l13SayIns [.sl (brows out), .sl (l.map TInDef.enc)] = .ret [.sl (brows (out ++ insT l))] := by
  obtain ⟨hl, hx⟩ := sl_wt hw
  unfold insT at ho ⊢
  rw [List.length_append] at ho
  have hlp := jt_loop (o := [40]) (sep := [44, 32]) (f := inT) (l := l) (st := fun i cur => [.sl (brows cur), .sl (l.map TInDef.enc), .i (i : Int)]) (F := E_spec_l13SayInsL1) (res := .ex 0 [.sl (brows (out ++ jt [40] [44, 32] inT l)), .sl (l.map TInDef.enc)]) out
    (fun i hi cur hc => ?step) ?fin (Out.esc_ex _ _)
  case fin => simp [E_spec_l13SayInsL1]
  case step =>
    have hm := List.getElem_mem hi
    have hv := spec_l13SayIn l[i] (hx _ hm) (ins_each hg _ hm)
    have c2 : 0 ≤ (i : Int) ∧ (i : Int) < (l.length : Int) := by omega
    have d : decide ((i : Int) < (l.length : Int)) = true := decide_eq_true (by omega)
    have wi := wrap_succ hi (show l.length ≤ 9223372036854775807 by omega)
    by_cases h0 : i = 0
    · have c0 : ((i : Int) == 0) = true := beq_iff_eq.2 (by omega)
      rw [if_pos h0] at hc ⊢
      simp only [List.length_append, List.length_cons, List.length_nil] at hc
      simp (disch := first | omega | (simp only [List.length_append, List.length_cons, List.length_nil, brows_len, LIM] <;> omega) | fail) only [E_spec_l13SayInsL1, zz0, zz1, zb, zi, zs, zl, bytesRow_eq, brows_app', brows_len, List.length_append, List.length_cons, List.length_nil, LIM, if_true, if_false, zf, zr, Out.andThen_norm, Out.andThenB_ret, Out.andThenB_norm, Out.andThenB_ex, if_pos, Int.toNat_natCast, zm, true_and, and_self, decide_true, bs, map_getD hi, TInDef.enc_eq, d, c0, c2, hv, wi]
      simp
    · have c0 : ((i : Int) == 0) = false := beq_eq_false_iff_ne.2 (by omega)
      rw [if_neg h0] at hc ⊢
      simp only [List.length_append, List.length_cons, List.length_nil] at hc
      simp (disch := first | omega | (simp only [List.length_append, List.length_cons, List.length_nil, brows_len, LIM] <;> omega) | fail) only [E_spec_l13SayInsL1, zz0, zz1, zb, zi, zs, zl, bytesRow_eq, brows_app', brows_len, List.length_append, List.length_cons, List.length_nil, LIM, if_true, if_false, zf, zr, Out.andThen_norm, Out.andThenB_ret, Out.andThenB_norm, Out.andThenB_ex, if_pos, Int.toNat_natCast, zm, true_and, and_self, decide_true, bs, map_getD hi, TInDef.enc_eq, d, c0, c2, hv, wi]
      simp
  rw [Int.natCast_zero] at hlp
  rw [eq_spec_l13SayIns]
  cases l with
  | nil => simp at hlp; simp [E_spec_l13SayIns, hlp]
  | cons a l =>
    have hpos : decide ((((a :: l).map TInDef.enc).length : Int) > 0) = true := decide_eq_true (by simp)
    simp only [List.isEmpty_cons, zf, if_false, List.length_cons, List.length_nil] at ho
    simp only [zm] at hpos
    simp (disch := first | omega | (simp only [List.length_append, List.length_cons, List.length_nil, brows_len, LIM] <;> omega) | fail) only [E_spec_l13SayIns, zz0, zz1, zb, zi, zs, zl, bytesRow_eq, brows_app', brows_len, List.length_append, List.length_cons, List.length_nil, LIM, if_true, if_false, zf, zr, Out.andThen_norm, Out.andThenB_ret, Out.andThenB_norm, Out.andThenB_ex, if_pos, Int.toNat_natCast, zm, true_and, and_self, decide_true, bs, hlp, hpos, List.isEmpty_cons]
    simp
theorem impl_insText (l : List TInDef) (hw : DC.wt (.sl (l.map TInDef.enc)) ≤ 1048576) (hg : insOk l = true) : r_impl_insText [.sl (l.map TInDef.enc)] = .ret [.s (insT l)] := by
  obtain ⟨hl, hx⟩ := sl_wt hw
  have hb := ins_len l hg
  rw [eq_impl_insText]
  cases l with
  | nil => simp [E_impl_insText, insT, jt]
  | cons a0 l0 =>
    have hz : ((((a0 :: l0).map TInDef.enc).length : Int) == 0) = false := beq_eq_false_iff_ne.2 (by simp; omega)
    rw [insT_cons] at hb ⊢
    generalize hL : a0 :: l0 = l at *
    simp only [List.length_cons, List.length_append, List.length_nil] at hb
    have hJ := Join_ok (l.map inT) (by rw [zm]; exact hl) (by omega)
    have hlp := words_loop (w := inT) (l := l) (st := fun i cur => [.sl cur, .sl (l.map TInDef.enc), .i (l.length : Int), .i (i : Int)]) (F := E_impl_insTextL1) (res := .ex 0 [.sl ((l.map inT).map fun x => [DC.s x])])
      (fun i hi cur hc => ?step) ?fin (Out.esc_ex _ _)
    case fin => simp [E_impl_insTextL1, Function.comp_def]
    case step =>
      have hm := List.getElem_mem hi
      have hv := impl_InText l[i] (hx _ hm)
      have hv2 : inText l[i] = inT l[i] := by unfold inText; rw [if_pos (ins_each hg _ hm)]
      rw [hv2] at hv
      have c2 : 0 ≤ (i : Int) ∧ (i : Int) < (l.length : Int) := by omega
      have d : decide ((i : Int) < (l.length : Int)) = true := decide_eq_true (by omega)
      have wi := wrap_succ hi (show l.length ≤ 9223372036854775807 by omega)
      simp (disch := first | omega | (simp only [List.length_append, List.length_cons, List.length_nil, brows_len, LIM] <;> omega) | fail) only [E_impl_insTextL1, zz0, zz1, zb, zi, zs, zl, bytesRow_eq, brows_app', brows_len, List.length_append, List.length_cons, List.length_nil, LIM, if_true, if_false, zf, zr, Out.andThen_norm, Out.andThenB_ret, Out.andThenB_norm, Out.andThenB_ex, if_pos, Int.toNat_natCast, zm, true_and, and_self, decide_true, bs, map_getD hi, TInDef.enc_eq, d, c2, hv, wi]
    rw [Int.natCast_zero] at hlp
    simp only [zm] at hz
    simp (disch := first | omega | (simp only [List.length_append, List.length_cons, List.length_nil, brows_len, LIM] <;> omega) | fail) only [E_impl_insText, zz0, zz1, zb, zi, zs, zl, bytesRow_eq, brows_app', brows_len, List.length_append, List.length_cons, List.length_nil, LIM, if_true, if_false, zf, zr, Out.andThen_norm, Out.andThenB_ret, Out.andThenB_norm, Out.andThenB_ex, if_pos, Int.toNat_natCast, zm, true_and, and_self, decide_true, bs, hz, hlp, hJ, Bool.not_true]
    simp
def descT (s : List UInt8) : List UInt8 := if s = [] then [] else [32, 32] ++ (escaped s ++ [10])
def fieldT (v : TFieldDef) : List UInt8 := descT v.desc ++ ([32, 32] ++ (v.name ++ (insT v.args ++ ([58, 32] ++ (typeT v.type'.name v.type'.wraps ++ (dirsT v.dirs ++ [10]))))))
theorem desc_len (s : List UInt8) : (descT s).length ≤ 6 * s.length + 5 := by
  have := escaped_len s
  unfold descT
  split
  · simp
  · simp only [List.length_append, List.length_cons, List.length_nil]; omega
theorem spec_l13SayDesc (s : List UInt8) (hs : s.length ≤ 1048576) (out : List UInt8) (ho : out.length + 6 * s.length + 10 < 1073741824) : r_spec_l13SayDesc [.sl (brows out), .s s] = .ret [.sl (brows (out ++ (descT s ++ [32, 32])))] := by
  have hE := spec_Escaped s hs
  have hl := escaped_len s
  rw [eq_spec_l13SayDesc]
  unfold descT
  by_cases k : s = []
  · have c : (s == ([] : List UInt8)) = true := beq_iff_eq.2 k
    rw [if_pos k]
    simp (disch := first | omega | (simp only [List.length_append, List.length_cons, List.length_nil, brows_len, LIM] <;> omega) | fail) only [E_spec_l13SayDesc, zz0, zz1, zb, zi, zs, zl, bytesRow_eq, brows_app', brows_len, List.length_append, List.length_cons, List.length_nil, LIM, if_true, if_false, zf, zr, Out.andThen_norm, Out.andThenB_ret, Out.andThenB_norm, Out.andThenB_ex, if_pos, Int.toNat_natCast, zm, true_and, and_self, decide_true, bs, c, Bool.not_true]
    simp
  · have c : (s == ([] : List UInt8)) = false := beq_eq_false_iff_ne.2 k
    rw [if_neg k]
    simp (disch := first | omega | (simp only [List.length_append, List.length_cons, List.length_nil, brows_len, LIM] <;> omega) | fail) only [E_spec_l13SayDesc, zz0, zz1, zb, zi, zs, zl, bytesRow_eq, brows_app', brows_len, List.length_append, List.length_cons, List.length_nil, LIM, if_true, if_false, zf, zr, Out.andThen_norm, Out.andThenB_ret, Out.andThenB_norm, Out.andThenB_ex, if_pos, Int.toNat_natCast, zm, true_and, and_self, decide_true, bs, c, hE, Bool.not_false]
    simp
theorem impl_descLine (s : List UInt8) (hs : s.length ≤ 1048576) : r_impl_descLine [.s [32, 32], .s s] = .ret [.s (descT s)] := by
  have hE := impl_Escaped s hs
  have hl := escaped_len s
  rw [eq_impl_descLine]
  unfold descT
  by_cases k : s = []
  · have c : (s == ([] : List UInt8)) = true := beq_iff_eq.2 k
    rw [if_pos k]
    simp only [E_impl_descLine, zz0, zz1, zb, zi, zs, zl, c, if_true]
  · have c : (s == ([] : List UInt8)) = false := beq_eq_false_iff_ne.2 k
    rw [if_neg k]
    simp (disch := first | omega | (simp only [List.length_append, List.length_cons, List.length_nil, brows_len, LIM] <;> omega) | fail) only [E_impl_descLine, zz0, zz1, zb, zi, zs, zl, bytesRow_eq, brows_app', brows_len, List.length_append, List.length_cons, List.length_nil, LIM, if_true, if_false, zf, zr, Out.andThen_norm, Out.andThenB_ret, Out.andThenB_norm, Out.andThenB_ex, if_pos, Int.toNat_natCast, zm, true_and, and_self, decide_true, bs, c, hE, Bool.not_false]
    simp
theorem field_facts {v : TFieldDef} (h : fieldOk v = true) : typeOk v.type'.name v.type'.wraps = true ∧ insOk v.args = true ∧ dirsOk v.dirs = true ∧ v.type'.wraps.length ≤ 8 := by
  simp only [fieldOk, constsOk, typeOk, Bool.and_eq_true, decide_eq_true_eq] at h ⊢
  exact ⟨h.2.2.1, h.2.2.2.1, h.2.2.2.2.1, h.2.2.1.2.1⟩
theorem fieldT_len (v : TFieldDef) (h : fieldOk v = true) : (fieldT v).length ≤ 40 * wtL v.enc + 40 := by
  obtain ⟨g1, g2, g3, g4⟩ := field_facts h
  have h1 := desc_len v.desc
  have h2 := type_len v.type'.wraps v.type'.name
  have h3 := ins_len v.args g2
  have h4 := dirs_len v.dirs
  rw [field_wt]
  unfold fieldT
  simp only [List.length_append, List.length_cons, List.length_nil]
  omega
theorem spec_l13SayField (v : TFieldDef) (hw : wtL v.enc ≤ 1048576) (hg : fieldOk v = true) (out : List UInt8) (ho : out.length + 40 * wtL v.enc + 100 < 1073741824) : r_spec_l13SayField [.sl (brows out), .s v.name, .s v.desc, .sl (v.args.map TInDef.enc), .s v.type'.name, .s v.type'.wraps, .sl (v.dirs.map TDir.enc)] = .ret [.sl (brows (out ++ fieldT v))] := by
  obtain ⟨g1, g2, g3, g4⟩ := field_facts hg
  rw [field_wt] at hw ho
  have l1 := desc_len v.desc
  have l2 := type_len v.type'.wraps v.type'.name
  have l3 := ins_len v.args g2
  have l4 := dirs_len v.dirs
  have hDe := spec_l13SayDesc v.desc (by omega) out (by omega)
  have hT := spec_TypeText v.type'.name v.type'.wraps (by omega) g1
  have hI := spec_l13SayIns v.args (by omega) g2
  have hD := spec_l10SayDirs v.dirs (by omega) g3
  rw [eq_spec_l13SayField]
  unfold fieldT
  simp (disch := first | omega | (simp only [List.length_append, List.length_cons, List.length_nil, brows_len, LIM] <;> omega) | fail) only [E_spec_l13SayField, zz0, zz1, zb, zi, zs, zl, bytesRow_eq, brows_app', brows_len, List.length_append, List.length_cons, List.length_nil, LIM, if_true, if_false, zf, zr, Out.andThen_norm, Out.andThenB_ret, Out.andThenB_norm, Out.andThenB_ex, if_pos, Int.toNat_natCast, zm, true_and, and_self, decide_true, bs, hDe, hT, hI, hD]
  simp
noncomputable def fieldText (v : TFieldDef) : List UInt8 := if fieldOk v = true then fieldT v else []
set_option maxHeartbeats 8000000 in
theorem impl_FieldText (v : TFieldDef) (hw : wtL v.enc ≤ 1048576) : r_impl_FieldText [.s v.name, .s v.desc, .sl (v.args.map TInDef.enc), .s v.type'.name, .s v.type'.wraps, .sl (v.dirs.map TDir.enc)] = .ret [.s (fieldText v)] := by
  have hk := impl_fieldOk v hw
  rw [eq_impl_FieldText]
  unfold fieldText
  cases hg : fieldOk v with
  | false => rw [hg] at hk; simp only [E_impl_FieldText, zz0, zz1, zb, zi, zs, zl, hk, zr, Bool.not_false, if_true, zf, if_false]
  | true =>
    obtain ⟨g1, g2, g3, g4⟩ := field_facts hg
    rw [field_wt] at hw
    have l1 := desc_len v.desc
    have l2 := type_len v.type'.wraps v.type'.name
    have l3 := ins_len v.args g2
    have l4 := dirs_len v.dirs
    have hDe := impl_descLine v.desc (by omega)
    have hT := impl_TypeText v.type'.name v.type'.wraps (by omega) g1
    have hI := impl_insText v.args (by omega) g2
    have hD := impl_DirsText v.dirs (by omega) g3
    rw [hg] at hk
    unfold fieldT
    simp (disch := first | omega | (simp only [List.length_append, List.length_cons, List.length_nil, brows_len, LIM] <;> omega) | fail) only [E_impl_FieldText, zz0, zz1, zb, zi, zs, zl, bytesRow_eq, brows_app', brows_len, List.length_append, List.length_cons, List.length_nil, LIM, if_true, if_false, zf, zr, Out.andThen_norm, Out.andThenB_ret, Out.andThenB_norm, Out.andThenB_ex, if_pos, Int.toNat_natCast, zm, true_and, and_self, decide_true, bs, hk, hDe, hT, hI, hD, Bool.not_true]
    simp
noncomputable def enumOk (v : TEnumDef) : Bool := nameOk v.name && (!word v.name && (descOk v.desc && constsOk v.dirs))
theorem enum_wt (v : TEnumDef) : wtL v.enc = v.name.length + v.desc.length + DC.wt (.sl (v.dirs.map TDir.enc)) := by
  rw [TEnumDef.enc_eq]
  simp only [wtL]
  simp only [DC.wt]
  omega
theorem impl_enumOk (v : TEnumDef) (hw : wtL v.enc ≤ 1048576) : r_impl_enumOk [.s v.name, .s v.desc, .sl (v.dirs.map TDir.enc)] = .ret [.b (enumOk v)] := by
  rw [enum_wt] at hw
  rw [eq_impl_enumOk]
  simp only [E_impl_enumOk, zz0, zz1, zb, zi, zs, zl, impl_NameOk v.name (by omega), impl_Word, impl_descOk v.desc (by omega), impl_constDirs v.dirs (by omega), zr, enumOk]
  generalize nameOk v.name = p1
  generalize word v.name = p2
  generalize descOk v.desc = p3
  generalize constsOk v.dirs = p4
  cases p1 <;> cases p2 <;> cases p3 <;> simp
def kind3 (k : Int) : Bool := k == 1 || (k == 2 || k == 3)
noncomputable def rootOk (v : TRoot) : Bool := kind3 v.kind && nameOk v.type'
theorem root_wt (v : TRoot) : wtL v.enc = v.type'.length := by
  rw [TRoot.enc_eq]
  simp only [wtL]
  simp only [DC.wt]
  omega
theorem impl_rootOk (v : TRoot) (hw : wtL v.enc ≤ 1048576) : r_impl_rootOk [.i v.kind, .s v.type'] = .ret [.b (rootOk v)] := by
  rw [root_wt] at hw
  rw [eq_impl_rootOk]
  simp only [E_impl_rootOk, zz0, zz1, zb, zi, zs, zl, impl_OpWord, word_nil, impl_NameOk v.type' (by omega), zr, rootOk, kind3]
  generalize (v.kind == 1 || (v.kind == 2 || v.kind == 3)) = p1
  cases p1 <;> simp
theorem cf_impl_partsOk_1 (ok : TFieldDef → Bool) (l : List TFieldDef) (hl : l.length ≤ 1048576) (hc : ∀ x ∈ l, r_impl_partsOk_1 [.s x.name, .s x.desc, .sl (x.args.map TInDef.enc), .s x.type'.name, .s x.type'.wraps, .sl (x.dirs.map TDir.enc)] = .ret [.b (!ok x)]) : r_slices_ContainsFunc_impl_FieldDef__impl_partsOk_1 [.sl (l.map TFieldDef.enc)] = .ret [.b (!(l.all ok))] := by
  rw [eq_slices_ContainsFunc_impl_FieldDef__impl_partsOk_1]
  simp only [E_slices_ContainsFunc_impl_FieldDef__impl_partsOk_1, zz0, zl]
  rw [eq_slices_IndexFunc_impl_FieldDef__impl_partsOk_1]
  simp only [E_slices_IndexFunc_impl_FieldDef__impl_partsOk_1, zz0, zl, zm]
  rw [show (0 : Int) = ((0 : Nat) : Int) from rfl, Loop_find0 (l := l) (st := fun i => [.sl (l.map TFieldDef.enc), .i (l.length : Int), .i (i : Int)]) (p := fun n => !ok n) (stop := fun i _ => .ret [.i (i : Int)]) (fin := .ex 0 []) (fun i hi => ?step) (fun _ _ => Out.esc_ret _) ?fin (Out.esc_ex _ _), goF_idx]
  · rw [List.not_all_eq_any_not]
    cases hf : l.findIdx? fun n => !ok n with
    | none =>
      have : (l.any fun n => !ok n) = false := by
        rw [List.any_eq_false]
        intro x hx
        have := List.findIdx?_eq_none_iff.1 hf x hx
        simpa using this
      rw [this]
      simp
    | some j =>
      obtain ⟨hj, h1, h2⟩ := List.findIdx?_eq_some_iff_getElem.1 hf
      have : (l.any fun n => !ok n) = true := List.any_eq_true.2 ⟨l[j], List.getElem_mem hj, h1⟩
      rw [this]
      simp [hj]
  case step =>
    have c2 : 0 ≤ (i : Int) ∧ (i : Int) < (l.length : Int) := by omega
    have d : decide ((i : Int) < (l.length : Int)) = true := decide_eq_true (by omega)
    have he : r_impl_partsOk_1 [.s l[i].name, .s l[i].desc, .sl (l[i].args.map TInDef.enc), .s l[i].type'.name, .s l[i].type'.wraps, .sl (l[i].dirs.map TDir.enc)] = .ret [.b (!ok l[i])] := hc _ (List.getElem_mem hi)
    simp only [E_slices_IndexFunc_impl_FieldDef__impl_partsOk_1L1, zz0, zz1, zb, zi, zs, zl, Int.toNat_natCast, zm, map_getD hi, TFieldDef.enc_eq, d, c2, he, zr, true_and, and_self, if_true]
    cases ok l[i] <;> simp [wrap_succ hi (show l.length ≤ 9223372036854775807 by omega)]
  case fin => simp [E_slices_IndexFunc_impl_FieldDef__impl_partsOk_1L1]
theorem cf_impl_partsOk_2 (ok : TEnumDef → Bool) (l : List TEnumDef) (hl : l.length ≤ 1048576) (hc : ∀ x ∈ l, r_impl_partsOk_2 [.s x.name, .s x.desc, .sl (x.dirs.map TDir.enc)] = .ret [.b (!ok x)]) : r_slices_ContainsFunc_impl_EnumDef__impl_partsOk_2 [.sl (l.map TEnumDef.enc)] = .ret [.b (!(l.all ok))] := by
  rw [eq_slices_ContainsFunc_impl_EnumDef__impl_partsOk_2]
  simp only [E_slices_ContainsFunc_impl_EnumDef__impl_partsOk_2, zz0, zl]
  rw [eq_slices_IndexFunc_impl_EnumDef__impl_partsOk_2]
  simp only [E_slices_IndexFunc_impl_EnumDef__impl_partsOk_2, zz0, zl, zm]
  rw [show (0 : Int) = ((0 : Nat) : Int) from rfl, Loop_find0 (l := l) (st := fun i => [.sl (l.map TEnumDef.enc), .i (l.length : Int), .i (i : Int)]) (p := fun n => !ok n) (stop := fun i _ => .ret [.i (i : Int)]) (fin := .ex 0 []) (fun i hi => ?step) (fun _ _ => Out.esc_ret _) ?fin (Out.esc_ex _ _), goF_idx]
  · rw [List.not_all_eq_any_not]
    cases hf : l.findIdx? fun n => !ok n with
    | none =>
      have : (l.any fun n => !ok n) = false := by
        rw [List.any_eq_false]
        intro x hx
        have := List.findIdx?_eq_none_iff.1 hf x hx
        simpa using this
      rw [this]
      simp
    | some j =>
      obtain ⟨hj, h1, h2⟩ := List.findIdx?_eq_some_iff_getElem.1 hf
      have : (l.any fun n => !ok n) = true := List.any_eq_true.2 ⟨l[j], List.getElem_mem hj, h1⟩
      rw [this]
      simp [hj]
  case step =>
    have c2 : 0 ≤ (i : Int) ∧ (i : Int) < (l.length : Int) := by omega
    have d : decide ((i : Int) < (l.length : Int)) = true := decide_eq_true (by omega)
    have he : r_impl_partsOk_2 [.s l[i].name, .s l[i].desc, .sl (l[i].dirs.map TDir.enc)] = .ret [.b (!ok l[i])] := hc _ (List.getElem_mem hi)
    simp only [E_slices_IndexFunc_impl_EnumDef__impl_partsOk_2L1, zz0, zz1, zb, zi, zs, zl, Int.toNat_natCast, zm, map_getD hi, TEnumDef.enc_eq, d, c2, he, zr, true_and, and_self, if_true]
    cases ok l[i] <;> simp [wrap_succ hi (show l.length ≤ 9223372036854775807 by omega)]
  case fin => simp [E_slices_IndexFunc_impl_EnumDef__impl_partsOk_2L1]
theorem cf_impl_partsOk_3 (ok : TRoot → Bool) (l : List TRoot) (hl : l.length ≤ 1048576) (hc : ∀ x ∈ l, r_impl_partsOk_3 [.i x.kind, .s x.type'] = .ret [.b (!ok x)]) : r_slices_ContainsFunc_impl_Root__impl_partsOk_3 [.sl (l.map TRoot.enc)] = .ret [.b (!(l.all ok))] := by
  rw [eq_slices_ContainsFunc_impl_Root__impl_partsOk_3]
  simp only [E_slices_ContainsFunc_impl_Root__impl_partsOk_3, zz0, zl]
  rw [eq_slices_IndexFunc_impl_Root__impl_partsOk_3]
  simp only [E_slices_IndexFunc_impl_Root__impl_partsOk_3, zz0, zl, zm]
  rw [show (0 : Int) = ((0 : Nat) : Int) from rfl, Loop_find0 (l := l) (st := fun i => [.sl (l.map TRoot.enc), .i (l.length : Int), .i (i : Int)]) (p := fun n => !ok n) (stop := fun i _ => .ret [.i (i : Int)]) (fin := .ex 0 []) (fun i hi => ?step) (fun _ _ => Out.esc_ret _) ?fin (Out.esc_ex _ _), goF_idx]
  · rw [List.not_all_eq_any_not]
    cases hf : l.findIdx? fun n => !ok n with
    | none =>
      have : (l.any fun n => !ok n) = false := by
        rw [List.any_eq_false]
        intro x hx
        have := List.findIdx?_eq_none_iff.1 hf x hx
        simpa using this
      rw [this]
      simp
    | some j =>
      obtain ⟨hj, h1, h2⟩ := List.findIdx?_eq_some_iff_getElem.1 hf
      have : (l.any fun n => !ok n) = true := List.any_eq_true.2 ⟨l[j], List.getElem_mem hj, h1⟩
      rw [this]
      simp [hj]
  case step =>
    have c2 : 0 ≤ (i : Int) ∧ (i : Int) < (l.length : Int) := by omega
    have d : decide ((i : Int) < (l.length : Int)) = true := decide_eq_true (by omega)
    have he : r_impl_partsOk_3 [.i l[i].kind, .s l[i].type'] = .ret [.b (!ok l[i])] := hc _ (List.getElem_mem hi)
    simp only [E_slices_IndexFunc_impl_Root__impl_partsOk_3L1, zz0, zz1, zb, zi, zs, zl, Int.toNat_natCast, zm, map_getD hi, TRoot.enc_eq, d, c2, he, zr, true_and, and_self, if_true]
    cases ok l[i] <;> simp [wrap_succ hi (show l.length ≤ 9223372036854775807 by omega)]
  case fin => simp [E_slices_IndexFunc_impl_Root__impl_partsOk_3L1]
theorem cf_impl_partsOk_4 (ok : List UInt8 → Bool) (l : List (List UInt8)) (hl : l.length ≤ 1048576) (hc : ∀ x ∈ l, r_impl_partsOk_4 [.s x] = .ret [.b (!ok x)]) : r_slices_ContainsFunc_string__impl_partsOk_4 [.sl (l.map S1)] = .ret [.b (!(l.all ok))] := by
  rw [eq_slices_ContainsFunc_string__impl_partsOk_4]
  simp only [E_slices_ContainsFunc_string__impl_partsOk_4, zz0, zl]
  rw [eq_slices_IndexFunc_string__impl_partsOk_4]
  simp only [E_slices_IndexFunc_string__impl_partsOk_4, zz0, zl, zm]
  rw [show (0 : Int) = ((0 : Nat) : Int) from rfl, Loop_find0 (l := l) (st := fun i => [.sl (l.map S1), .i (l.length : Int), .i (i : Int)]) (p := fun n => !ok n) (stop := fun i _ => .ret [.i (i : Int)]) (fin := .ex 0 []) (fun i hi => ?step) (fun _ _ => Out.esc_ret _) ?fin (Out.esc_ex _ _), goF_idx]
  · rw [List.not_all_eq_any_not]
    cases hf : l.findIdx? fun n => !ok n with
    | none =>
      have : (l.any fun n => !ok n) = false := by
        rw [List.any_eq_false]
        intro x hx
        have := List.findIdx?_eq_none_iff.1 hf x hx
        simpa using this
      rw [this]
      simp
    | some j =>
      obtain ⟨hj, h1, h2⟩ := List.findIdx?_eq_some_iff_getElem.1 hf
      have : (l.any fun n => !ok n) = true := List.any_eq_true.2 ⟨l[j], List.getElem_mem hj, h1⟩
      rw [this]
      simp [hj]
  case step =>
    have c2 : 0 ≤ (i : Int) ∧ (i : Int) < (l.length : Int) := by omega
    have d : decide ((i : Int) < (l.length : Int)) = true := decide_eq_true (by omega)
    have he : r_impl_partsOk_4 [.s l[i]] = .ret [.b (!ok l[i])] := hc _ (List.getElem_mem hi)
    simp only [E_slices_IndexFunc_string__impl_partsOk_4L1, zz0, zz1, zb, zi, zs, zl, Int.toNat_natCast, zm, map_getD hi, S1, d, c2, he, zr, true_and, and_self, if_true]
    rcases zt (ok l[i]) with q | q <;> simp [q, wrap_succ hi (show l.length ≤ 9223372036854775807 by omega)]
  case fin => simp [E_slices_IndexFunc_string__impl_partsOk_4L1]
theorem cf_impl_DefOk_1 (ok : List UInt8 → Bool) (l : List (List UInt8)) (hl : l.length ≤ 1048576) (hc : ∀ x ∈ l, r_impl_DefOk_1 [.s x] = .ret [.b (!ok x)]) : r_slices_ContainsFunc_string__impl_DefOk_1 [.sl (l.map S1)] = .ret [.b (!(l.all ok))] := by
  rw [eq_slices_ContainsFunc_string__impl_DefOk_1]
  simp only [E_slices_ContainsFunc_string__impl_DefOk_1, zz0, zl]
  rw [eq_slices_IndexFunc_string__impl_DefOk_1]
  simp only [E_slices_IndexFunc_string__impl_DefOk_1, zz0, zl, zm]
  rw [show (0 : Int) = ((0 : Nat) : Int) from rfl, Loop_find0 (l := l) (st := fun i => [.sl (l.map S1), .i (l.length : Int), .i (i : Int)]) (p := fun n => !ok n) (stop := fun i _ => .ret [.i (i : Int)]) (fin := .ex 0 []) (fun i hi => ?step) (fun _ _ => Out.esc_ret _) ?fin (Out.esc_ex _ _), goF_idx]
  · rw [List.not_all_eq_any_not]
    cases hf : l.findIdx? fun n => !ok n with
    | none =>
      have : (l.any fun n => !ok n) = false := by
        rw [List.any_eq_false]
        intro x hx
        have := List.findIdx?_eq_none_iff.1 hf x hx
        simpa using this
      rw [this]
      simp
    | some j =>
      obtain ⟨hj, h1, h2⟩ := List.findIdx?_eq_some_iff_getElem.1 hf
      have : (l.any fun n => !ok n) = true := List.any_eq_true.2 ⟨l[j], List.getElem_mem hj, h1⟩
      rw [this]
      simp [hj]
  case step =>
    have c2 : 0 ≤ (i : Int) ∧ (i : Int) < (l.length : Int) := by omega
    have d : decide ((i : Int) < (l.length : Int)) = true := decide_eq_true (by omega)
    have he : r_impl_DefOk_1 [.s l[i]] = .ret [.b (!ok l[i])] := hc _ (List.getElem_mem hi)
    simp only [E_slices_IndexFunc_string__impl_DefOk_1L1, zz0, zz1, zb, zi, zs, zl, Int.toNat_natCast, zm, map_getD hi, S1, d, c2, he, zr, true_and, and_self, if_true]
    rcases zt (ok l[i]) with q | q <;> simp [q, wrap_succ hi (show l.length ≤ 9223372036854775807 by omega)]
  case fin => simp [E_slices_IndexFunc_string__impl_DefOk_1L1]
theorem or_lvl {c : Bool} {X : Out} (h : ∃ b, X = .norm [.b b]) : ∃ b, (if c = true then Out.norm [.b c] else Out.andThen X fun v => .norm [.b (gb v 0)]) = .norm [.b b] := by
  obtain ⟨b, rfl⟩ := h
  cases c <;> exact ⟨_, rfl⟩
theorem or_last {c d : Bool} : ∃ b, (if c = true then Out.norm [.b c] else .norm [.b d]) = .norm [.b b] := by
  cases c <;> exact ⟨_, rfl⟩
theorem or_end {X : Out} (h : ∃ b, X = .norm [.b b]) : ∃ b, Out.andThenB (Out.andThen X fun v => if (gb v 0) = true then .ret [.b true] else .norm []) 0 (fun _ => .ret [.b false]) = .ret [.b b] := by
  obtain ⟨b, rfl⟩ := h
  cases b <;> exact ⟨_, rfl⟩
noncomputable def placeOk (s : List UInt8) : Bool := match r_spec_PlaceOk [.s s] with
  | .ret w => (gb w 0)
  | _ => false
theorem spec_PlaceOk (s : List UInt8) : r_spec_PlaceOk [.s s] = .ret [.b (placeOk s)] := by
  have h : ∃ b, r_spec_PlaceOk [.s s] = .ret [.b b] := by
    rw [eq_spec_PlaceOk]
    refine or_end (or_lvl ?_)
    repeat refine or_lvl ?_
    exact or_last
  obtain ⟨b, hb⟩ := h
  unfold placeOk
  rw [hb]
  rfl
theorem impl_PlaceOk (s : List UInt8) : r_impl_PlaceOk [.s s] = .ret [.b (placeOk s)] := by
  rw [← spec_PlaceOk, eq_impl_PlaceOk, eq_spec_PlaceOk]
  rfl
def ne {α : Type} (l : List α) : Bool := !l.isEmpty
theorem len_pos {α : Type} (l : List α) (f : α → List DC) : decide (((l.map f).length : Int) > 0) = ne l := by
  cases l with
  | nil => rfl
  | cons a l => exact decide_eq_true (by simp)
theorem len_zero {α : Type} (l : List α) (f : α → List DC) : (((l.map f).length : Int) == 0) = !ne l := by rw [len0]; unfold ne; cases l.isEmpty <;> rfl
theorem def_wt (v : TDef) : wtL v.enc = v.desc.length + v.name.length + DC.wt (.sl (v.faces.map S1)) + DC.wt (.sl (v.fields.map TFieldDef.enc)) + DC.wt (.sl (v.inputs.map TInDef.enc)) + DC.wt (.sl (v.values.map TEnumDef.enc)) + DC.wt (.sl (v.roots.map TRoot.enc)) + DC.wt (.sl (v.dirs.map TDir.enc)) := by
  rw [TDef.enc_eq]
  simp only [wtL]
  simp only [DC.wt]
  omega
def some6 (v : TDef) : Bool := ne v.faces || (ne v.fields || (ne v.inputs || (ne v.values || (ne v.roots || ne v.dirs))))
theorem sum_pos (a b c d e f : Nat) (h : a ≤ 1048576 ∧ b ≤ 1048576 ∧ c ≤ 1048576 ∧ d ≤ 1048576 ∧ e ≤ 1048576 ∧ f ≤ 1048576) :
    decide (IntKind.i64.wrap (IntKind.i64.wrap (IntKind.i64.wrap (IntKind.i64.wrap (IntKind.i64.wrap ((a : Int) + b) + c) + d) + e) + f) > 0) = (decide ((a : Int) > 0) || (decide ((b : Int) > 0) || (decide ((c : Int) > 0) || (decide ((d : Int) > 0) || (decide ((e : Int) > 0) || decide ((f : Int) > 0)))))) := by
  rw [wrap64 (n := (a : Int) + b) (by omega) (by omega), wrap64 (n := (a : Int) + b + c) (by omega) (by omega), wrap64 (n := (a : Int) + b + c + d) (by omega) (by omega), wrap64 (n := (a : Int) + b + c + d + e) (by omega) (by omega), wrap64 (n := (a : Int) + b + c + d + e + f) (by omega) (by omega)]
  simp only [← Bool.decide_or]
  exact decide_eq_decide.2 (by omega)
theorem def_lens (v : TDef) (hw : wtL v.enc ≤ 1048576) : v.faces.length ≤ 1048576 ∧ v.fields.length ≤ 1048576 ∧ v.inputs.length ≤ 1048576 ∧ v.values.length ≤ 1048576 ∧ v.roots.length ≤ 1048576 ∧ v.dirs.length ≤ 1048576 := by
  rw [def_wt] at hw
  simp only [DC.wt, zm] at hw
  omega
theorem spec_l13Has (v : TDef) (hw : wtL v.enc ≤ 1048576) : r_spec_l13Has [.i v.kind, .b v.ext, .s v.desc, .s v.name, .sl (v.faces.map S1), .sl (v.fields.map TFieldDef.enc), .sl (v.inputs.map TInDef.enc), .sl (v.values.map TEnumDef.enc), .sl (v.roots.map TRoot.enc), .b v.repeat', .sl (v.dirs.map TDir.enc)] = .ret [.b (some6 v)] := by
  have h := def_lens v hw
  rw [eq_spec_l13Has]
  simp only [E_spec_l13Has, zz0, zz1, zb, zi, zs, zl]
  rw [sum_pos _ _ _ _ _ _ (by simpa only [zm] using h)]
  simp only [len_pos, some6]
theorem impl_something (v : TDef) (hw : wtL v.enc ≤ 1048576) : r_impl_something [.i v.kind, .b v.ext, .s v.desc, .s v.name, .sl (v.faces.map S1), .sl (v.fields.map TFieldDef.enc), .sl (v.inputs.map TInDef.enc), .sl (v.values.map TEnumDef.enc), .sl (v.roots.map TRoot.enc), .b v.repeat', .sl (v.dirs.map TDir.enc)] = .ret [.b (some6 v)] := by
  have h := def_lens v hw
  rw [eq_impl_something]
  simp only [E_impl_something, zz0, zz1, zb, zi, zs, zl]
  rw [sum_pos _ _ _ _ _ _ (by simpa only [zm] using h)]
  simp only [len_pos, some6]
def mayB (K : Int) (ext nn rep fa f i v r d pl : Bool) : Bool :=
  !((!(K == 2 || K == 3) && f) || ((!(K == 2 || K == 3) && (K != 4 && (K != 7 && fa))) || ((K != 6 && (K != 7 && i)) || ((K != 5 && v) || ((K != 8 && r) || (K != 7 && rep)))))) &&
  (if (K == 7) = true then pl && (fa && (!ext && !d)) else (K != 8 || (nn && (ext || r))))
def blB (K : Int) (rep fa f i v r d : Bool) : Bool :=
  !((f && !(K == 2 || K == 3)) || (fa && (!(K == 2 || K == 3) && (K != 4 && K != 7)))) && (!((i && (K != 6 && K != 7)) || (v && K != 5)) && ((!r || K == 8) && ((!d || K != 7) && (!rep || K == 7))))
theorem kind_facts2 {K : Int} (k : K = 2) : (K == 2) = true ∧ (K == 3) = false ∧ (K == 4) = false ∧ (K == 5) = false ∧ (K == 6) = false ∧ (K == 7) = false ∧ (K == 8) = false := by
  subst k; decide
theorem kind_facts3 {K : Int} (k : K = 3) : (K == 2) = false ∧ (K == 3) = true ∧ (K == 4) = false ∧ (K == 5) = false ∧ (K == 6) = false ∧ (K == 7) = false ∧ (K == 8) = false := by
  subst k; decide
theorem kind_facts4 {K : Int} (k : K = 4) : (K == 2) = false ∧ (K == 3) = false ∧ (K == 4) = true ∧ (K == 5) = false ∧ (K == 6) = false ∧ (K == 7) = false ∧ (K == 8) = false := by
  subst k; decide
theorem kind_facts5 {K : Int} (k : K = 5) : (K == 2) = false ∧ (K == 3) = false ∧ (K == 4) = false ∧ (K == 5) = true ∧ (K == 6) = false ∧ (K == 7) = false ∧ (K == 8) = false := by
  subst k; decide
theorem kind_facts6 {K : Int} (k : K = 6) : (K == 2) = false ∧ (K == 3) = false ∧ (K == 4) = false ∧ (K == 5) = false ∧ (K == 6) = true ∧ (K == 7) = false ∧ (K == 8) = false := by
  subst k; decide
theorem kind_facts7 {K : Int} (k : K = 7) : (K == 2) = false ∧ (K == 3) = false ∧ (K == 4) = false ∧ (K == 5) = false ∧ (K == 6) = false ∧ (K == 7) = true ∧ (K == 8) = false := by
  subst k; decide
theorem kind_facts8 {K : Int} (k : K = 8) : (K == 2) = false ∧ (K == 3) = false ∧ (K == 4) = false ∧ (K == 5) = false ∧ (K == 6) = false ∧ (K == 7) = false ∧ (K == 8) = true := by
  subst k; decide
theorem kind_facts0 {K : Int} (k2 : ¬K = 2) (k3 : ¬K = 3) (k4 : ¬K = 4) (k5 : ¬K = 5) (k6 : ¬K = 6) (k7 : ¬K = 7) (k8 : ¬K = 8) : (K == 2) = false ∧ (K == 3) = false ∧ (K == 4) = false ∧ (K == 5) = false ∧ (K == 6) = false ∧ (K == 7) = false ∧ (K == 8) = false := by
  exact ⟨beq_eq_false_iff_ne.2 k2, beq_eq_false_iff_ne.2 k3, beq_eq_false_iff_ne.2 k4, beq_eq_false_iff_ne.2 k5, beq_eq_false_iff_ne.2 k6, beq_eq_false_iff_ne.2 k7, beq_eq_false_iff_ne.2 k8⟩
noncomputable def placesOk (l : List (List UInt8)) : Bool := l.all placeOk
theorem spec_l13May (v : TDef) (hw : wtL v.enc ≤ 1048576) : r_spec_l13May [.i v.kind, .b v.ext, .s v.desc, .s v.name, .sl (v.faces.map S1), .sl (v.fields.map TFieldDef.enc), .sl (v.inputs.map TInDef.enc), .sl (v.values.map TEnumDef.enc), .sl (v.roots.map TRoot.enc), .b v.repeat', .sl (v.dirs.map TDir.enc)] = .ret [.b (mayB v.kind v.ext (v.name == []) v.repeat' (ne v.faces) (ne v.fields) (ne v.inputs) (ne v.values) (ne v.roots) (ne v.dirs) (placesOk v.faces))] := by
  have hl := def_lens v hw
  have hlp : Loop E_spec_l13MayL1 [.i 0, .i v.kind, .b v.ext, .s v.desc, .s v.name, .sl (v.faces.map S1), .sl (v.fields.map TFieldDef.enc), .sl (v.inputs.map TInDef.enc), .sl (v.values.map TEnumDef.enc), .sl (v.roots.map TRoot.enc), .b v.repeat', .sl (v.dirs.map TDir.enc)] = if v.faces.all placeOk = true then .ex 0 [.i v.kind, .b v.ext, .s v.desc, .s v.name, .sl (v.faces.map S1), .sl (v.fields.map TFieldDef.enc), .sl (v.inputs.map TInDef.enc), .sl (v.values.map TEnumDef.enc), .sl (v.roots.map TRoot.enc), .b v.repeat', .sl (v.dirs.map TDir.enc)] else .ret [.b false] := by
    rw [show (0 : Int) = ((0 : Nat) : Int) from rfl, Loop_find0 (l := v.faces) (st := fun i => [.i (i : Int), .i v.kind, .b v.ext, .s v.desc, .s v.name, .sl (v.faces.map S1), .sl (v.fields.map TFieldDef.enc), .sl (v.inputs.map TInDef.enc), .sl (v.values.map TEnumDef.enc), .sl (v.roots.map TRoot.enc), .b v.repeat', .sl (v.dirs.map TDir.enc)]) (p := fun x => !placeOk x) (stop := fun i _ => .ret [.b false]) (fin := .ex 0 [.i v.kind, .b v.ext, .s v.desc, .s v.name, .sl (v.faces.map S1), .sl (v.fields.map TFieldDef.enc), .sl (v.inputs.map TInDef.enc), .sl (v.values.map TEnumDef.enc), .sl (v.roots.map TRoot.enc), .b v.repeat', .sl (v.dirs.map TDir.enc)]) (fun i hi => ?step) (fun _ _ => Out.esc_ret _) ?fin (Out.esc_ex _ _), goF_any]
    · rw [show (v.faces.any fun x => !placeOk x) = !(v.faces.all placeOk) by rw [List.not_all_eq_any_not]]
      cases v.faces.all placeOk <;> simp
    case step =>
      have hx := spec_PlaceOk v.faces[i]
      have c2 : 0 ≤ (i : Int) ∧ (i : Int) < (v.faces.length : Int) := by omega
      have d : decide ((i : Int) < (v.faces.length : Int)) = true := decide_eq_true (by omega)
      simp only [E_spec_l13MayL1, zz0, zz1, zb, zi, zs, zl, Int.toNat_natCast, zm, map_getD hi, d, c2, S1, hx, zr, true_and, and_self, if_true, decide_true]
      rcases zt (placeOk v.faces[i]) with q | q <;> simp [q, wrap_succ hi (show v.faces.length ≤ 9223372036854775807 by omega)]
    case fin => simp [E_spec_l13MayL1]
  rw [show v.faces.all placeOk = placesOk v.faces from rfl] at hlp
  rw [eq_spec_l13May]
  unfold mayB
  by_cases k2 : v.kind = 2
  · obtain ⟨c2, c3, c4, c5, c6, c7, c8⟩ := kind_facts2 k2
    clear k2
    rcases zt (ne v.inputs) with h_i | h_i
    rotate_left
    rcases zt (ne v.values) with h_v | h_v
    rotate_left
    rcases zt (ne v.roots) with h_r | h_r
    rotate_left
    rcases zt (v.repeat') with h_rep | h_rep
    rotate_left
    all_goals simp only [E_spec_l13May, zz0, zz1, zb, zi, zs, zl, Out.andThen_norm, Out.andThenB_ret, Out.andThenB_ex, Out.andThenB_norm, len_pos, len_zero, bne, eq_self, if_true, if_false, zf, Bool.not_true, Bool.not_false, Bool.and_true, Bool.true_and, Bool.and_false, Bool.false_and, Bool.or_true, Bool.true_or, Bool.or_false, Bool.false_or, Bool.or_self, Bool.and_self, *]
  by_cases k3 : v.kind = 3
  · obtain ⟨c2, c3, c4, c5, c6, c7, c8⟩ := kind_facts3 k3
    clear k2 k3
    rcases zt (ne v.inputs) with h_i | h_i
    rotate_left
    rcases zt (ne v.values) with h_v | h_v
    rotate_left
    rcases zt (ne v.roots) with h_r | h_r
    rotate_left
    rcases zt (v.repeat') with h_rep | h_rep
    rotate_left
    all_goals simp only [E_spec_l13May, zz0, zz1, zb, zi, zs, zl, Out.andThen_norm, Out.andThenB_ret, Out.andThenB_ex, Out.andThenB_norm, len_pos, len_zero, bne, eq_self, if_true, if_false, zf, Bool.not_true, Bool.not_false, Bool.and_true, Bool.true_and, Bool.and_false, Bool.false_and, Bool.or_true, Bool.true_or, Bool.or_false, Bool.false_or, Bool.or_self, Bool.and_self, *]
  by_cases k4 : v.kind = 4
  · obtain ⟨c2, c3, c4, c5, c6, c7, c8⟩ := kind_facts4 k4
    clear k2 k3 k4
    rcases zt (ne v.fields) with h_f | h_f
    rotate_left
    rcases zt (ne v.inputs) with h_i | h_i
    rotate_left
    rcases zt (ne v.values) with h_v | h_v
    rotate_left
    rcases zt (ne v.roots) with h_r | h_r
    rotate_left
    rcases zt (v.repeat') with h_rep | h_rep
    rotate_left
    all_goals simp only [E_spec_l13May, zz0, zz1, zb, zi, zs, zl, Out.andThen_norm, Out.andThenB_ret, Out.andThenB_ex, Out.andThenB_norm, len_pos, len_zero, bne, eq_self, if_true, if_false, zf, Bool.not_true, Bool.not_false, Bool.and_true, Bool.true_and, Bool.and_false, Bool.false_and, Bool.or_true, Bool.true_or, Bool.or_false, Bool.false_or, Bool.or_self, Bool.and_self, *]
  by_cases k5 : v.kind = 5
  · obtain ⟨c2, c3, c4, c5, c6, c7, c8⟩ := kind_facts5 k5
    clear k2 k3 k4 k5
    rcases zt (ne v.fields) with h_f | h_f
    rotate_left
    rcases zt (ne v.faces) with h_fa | h_fa
    rotate_left
    rcases zt (ne v.inputs) with h_i | h_i
    rotate_left
    rcases zt (ne v.roots) with h_r | h_r
    rotate_left
    rcases zt (v.repeat') with h_rep | h_rep
    rotate_left
    all_goals simp only [E_spec_l13May, zz0, zz1, zb, zi, zs, zl, Out.andThen_norm, Out.andThenB_ret, Out.andThenB_ex, Out.andThenB_norm, len_pos, len_zero, bne, eq_self, if_true, if_false, zf, Bool.not_true, Bool.not_false, Bool.and_true, Bool.true_and, Bool.and_false, Bool.false_and, Bool.or_true, Bool.true_or, Bool.or_false, Bool.false_or, Bool.or_self, Bool.and_self, *]
  by_cases k6 : v.kind = 6
  · obtain ⟨c2, c3, c4, c5, c6, c7, c8⟩ := kind_facts6 k6
    clear k2 k3 k4 k5 k6
    rcases zt (ne v.fields) with h_f | h_f
    rotate_left
    rcases zt (ne v.faces) with h_fa | h_fa
    rotate_left
    rcases zt (ne v.values) with h_v | h_v
    rotate_left
    rcases zt (ne v.roots) with h_r | h_r
    rotate_left
    rcases zt (v.repeat') with h_rep | h_rep
    rotate_left
    all_goals simp only [E_spec_l13May, zz0, zz1, zb, zi, zs, zl, Out.andThen_norm, Out.andThenB_ret, Out.andThenB_ex, Out.andThenB_norm, len_pos, len_zero, bne, eq_self, if_true, if_false, zf, Bool.not_true, Bool.not_false, Bool.and_true, Bool.true_and, Bool.and_false, Bool.false_and, Bool.or_true, Bool.true_or, Bool.or_false, Bool.false_or, Bool.or_self, Bool.and_self, *]
  by_cases k7 : v.kind = 7
  · obtain ⟨c2, c3, c4, c5, c6, c7, c8⟩ := kind_facts7 k7
    clear k2 k3 k4 k5 k6 k7
    rcases zt (ne v.fields) with h_f | h_f
    rotate_left
    rcases zt (ne v.values) with h_v | h_v
    rotate_left
    rcases zt (ne v.roots) with h_r | h_r
    rotate_left
    rcases zt (placesOk v.faces) with h_pl | h_pl <;> rcases zt (ne v.faces) with h_fa | h_fa <;> rcases zt (ne v.dirs) with h_d | h_d <;> rcases zt (v.ext) with h_ext | h_ext <;> simp only [h_ext] at hlp
    all_goals simp only [E_spec_l13May, zz0, zz1, zb, zi, zs, zl, Out.andThen_norm, Out.andThenB_ret, Out.andThenB_ex, Out.andThenB_norm, len_pos, len_zero, bne, eq_self, if_true, if_false, zf, Bool.not_true, Bool.not_false, Bool.and_true, Bool.true_and, Bool.and_false, Bool.false_and, Bool.or_true, Bool.true_or, Bool.or_false, Bool.false_or, Bool.or_self, Bool.and_self, *]
  by_cases k8 : v.kind = 8
  · obtain ⟨c2, c3, c4, c5, c6, c7, c8⟩ := kind_facts8 k8
    clear k2 k3 k4 k5 k6 k7 k8
    rcases zt (ne v.fields) with h_f | h_f
    rotate_left
    rcases zt (ne v.faces) with h_fa | h_fa
    rotate_left
    rcases zt (ne v.inputs) with h_i | h_i
    rotate_left
    rcases zt (ne v.values) with h_v | h_v
    rotate_left
    rcases zt (v.repeat') with h_rep | h_rep
    rotate_left
    rcases zt ((v.name == ([] : List UInt8))) with h_nn | h_nn <;> rcases zt (v.ext) with h_ext | h_ext <;> rcases zt (ne v.roots) with h_r | h_r
    all_goals simp only [E_spec_l13May, zz0, zz1, zb, zi, zs, zl, Out.andThen_norm, Out.andThenB_ret, Out.andThenB_ex, Out.andThenB_norm, len_pos, len_zero, bne, eq_self, if_true, if_false, zf, Bool.not_true, Bool.not_false, Bool.and_true, Bool.true_and, Bool.and_false, Bool.false_and, Bool.or_true, Bool.true_or, Bool.or_false, Bool.false_or, Bool.or_self, Bool.and_self, *]
  obtain ⟨c2, c3, c4, c5, c6, c7, c8⟩ := kind_facts0 k2 k3 k4 k5 k6 k7 k8
  clear k2 k3 k4 k5 k6 k7 k8
  rcases zt (ne v.fields) with h_f | h_f
  rotate_left
  rcases zt (ne v.faces) with h_fa | h_fa
  rotate_left
  rcases zt (ne v.inputs) with h_i | h_i
  rotate_left
  rcases zt (ne v.values) with h_v | h_v
  rotate_left
  rcases zt (ne v.roots) with h_r | h_r
  rotate_left
  rcases zt (v.repeat') with h_rep | h_rep
  rotate_left
  all_goals simp only [E_spec_l13May, zz0, zz1, zb, zi, zs, zl, Out.andThen_norm, Out.andThenB_ret, Out.andThenB_ex, Out.andThenB_norm, len_pos, len_zero, bne, eq_self, if_true, if_false, zf, Bool.not_true, Bool.not_false, Bool.and_true, Bool.true_and, Bool.and_false, Bool.false_and, Bool.or_true, Bool.true_or, Bool.or_false, Bool.false_or, Bool.or_self, Bool.and_self, *]
set_option maxHeartbeats 4000000 in
theorem impl_belongs (v : TDef) : r_impl_belongs [.i v.kind, .b v.ext, .s v.desc, .s v.name, .sl (v.faces.map S1), .sl (v.fields.map TFieldDef.enc), .sl (v.inputs.map TInDef.enc), .sl (v.values.map TEnumDef.enc), .sl (v.roots.map TRoot.enc), .b v.repeat', .sl (v.dirs.map TDir.enc)] = .ret [.b (blB v.kind v.repeat' (ne v.faces) (ne v.fields) (ne v.inputs) (ne v.values) (ne v.roots) (ne v.dirs))] := by
  rw [eq_impl_belongs]
  unfold blB
  by_cases k2 : v.kind = 2
  · obtain ⟨c2, c3, c4, c5, c6, c7, c8⟩ := kind_facts2 k2
    clear k2
    rcases zt (ne v.inputs) with h_i | h_i
    rotate_left
    rcases zt (ne v.values) with h_v | h_v
    rotate_left
    rcases zt (ne v.roots) with h_r | h_r <;> rcases zt (ne v.dirs) with h_d | h_d <;> rcases zt (v.repeat') with h_rep | h_rep
    all_goals simp only [E_impl_belongs, zz0, zz1, zb, zi, zs, zl, Out.andThen_norm, Out.andThenB_ret, Out.andThenB_ex, Out.andThenB_norm, len_pos, len_zero, bne, eq_self, if_true, if_false, zf, Bool.not_true, Bool.not_false, Bool.and_true, Bool.true_and, Bool.and_false, Bool.false_and, Bool.or_true, Bool.true_or, Bool.or_false, Bool.false_or, Bool.or_self, Bool.and_self, ite_self, *]
  by_cases k3 : v.kind = 3
  · obtain ⟨c2, c3, c4, c5, c6, c7, c8⟩ := kind_facts3 k3
    clear k2 k3
    rcases zt (ne v.inputs) with h_i | h_i
    rotate_left
    rcases zt (ne v.values) with h_v | h_v
    rotate_left
    rcases zt (ne v.roots) with h_r | h_r <;> rcases zt (ne v.dirs) with h_d | h_d <;> rcases zt (v.repeat') with h_rep | h_rep
    all_goals simp only [E_impl_belongs, zz0, zz1, zb, zi, zs, zl, Out.andThen_norm, Out.andThenB_ret, Out.andThenB_ex, Out.andThenB_norm, len_pos, len_zero, bne, eq_self, if_true, if_false, zf, Bool.not_true, Bool.not_false, Bool.and_true, Bool.true_and, Bool.and_false, Bool.false_and, Bool.or_true, Bool.true_or, Bool.or_false, Bool.false_or, Bool.or_self, Bool.and_self, ite_self, *]
  by_cases k4 : v.kind = 4
  · obtain ⟨c2, c3, c4, c5, c6, c7, c8⟩ := kind_facts4 k4
    clear k2 k3 k4
    rcases zt (ne v.fields) with h_f | h_f
    rotate_left
    rcases zt (ne v.inputs) with h_i | h_i
    rotate_left
    rcases zt (ne v.values) with h_v | h_v
    rotate_left
    rcases zt (ne v.roots) with h_r | h_r <;> rcases zt (ne v.dirs) with h_d | h_d <;> rcases zt (v.repeat') with h_rep | h_rep
    all_goals simp only [E_impl_belongs, zz0, zz1, zb, zi, zs, zl, Out.andThen_norm, Out.andThenB_ret, Out.andThenB_ex, Out.andThenB_norm, len_pos, len_zero, bne, eq_self, if_true, if_false, zf, Bool.not_true, Bool.not_false, Bool.and_true, Bool.true_and, Bool.and_false, Bool.false_and, Bool.or_true, Bool.true_or, Bool.or_false, Bool.false_or, Bool.or_self, Bool.and_self, ite_self, *]
  by_cases k5 : v.kind = 5
  · obtain ⟨c2, c3, c4, c5, c6, c7, c8⟩ := kind_facts5 k5
    clear k2 k3 k4 k5
    rcases zt (ne v.fields) with h_f | h_f
    rotate_left
    rcases zt (ne v.faces) with h_fa | h_fa
    rotate_left
    rcases zt (ne v.inputs) with h_i | h_i
    rotate_left
    rcases zt (ne v.roots) with h_r | h_r <;> rcases zt (ne v.dirs) with h_d | h_d <;> rcases zt (v.repeat') with h_rep | h_rep
    all_goals simp only [E_impl_belongs, zz0, zz1, zb, zi, zs, zl, Out.andThen_norm, Out.andThenB_ret, Out.andThenB_ex, Out.andThenB_norm, len_pos, len_zero, bne, eq_self, if_true, if_false, zf, Bool.not_true, Bool.not_false, Bool.and_true, Bool.true_and, Bool.and_false, Bool.false_and, Bool.or_true, Bool.true_or, Bool.or_false, Bool.false_or, Bool.or_self, Bool.and_self, ite_self, *]
  by_cases k6 : v.kind = 6
  · obtain ⟨c2, c3, c4, c5, c6, c7, c8⟩ := kind_facts6 k6
    clear k2 k3 k4 k5 k6
    rcases zt (ne v.fields) with h_f | h_f
    rotate_left
    rcases zt (ne v.faces) with h_fa | h_fa
    rotate_left
    rcases zt (ne v.values) with h_v | h_v
    rotate_left
    rcases zt (ne v.roots) with h_r | h_r <;> rcases zt (ne v.dirs) with h_d | h_d <;> rcases zt (v.repeat') with h_rep | h_rep
    all_goals simp only [E_impl_belongs, zz0, zz1, zb, zi, zs, zl, Out.andThen_norm, Out.andThenB_ret, Out.andThenB_ex, Out.andThenB_norm, len_pos, len_zero, bne, eq_self, if_true, if_false, zf, Bool.not_true, Bool.not_false, Bool.and_true, Bool.true_and, Bool.and_false, Bool.false_and, Bool.or_true, Bool.true_or, Bool.or_false, Bool.false_or, Bool.or_self, Bool.and_self, ite_self, *]
  by_cases k7 : v.kind = 7
  · obtain ⟨c2, c3, c4, c5, c6, c7, c8⟩ := kind_facts7 k7
    clear k2 k3 k4 k5 k6 k7
    rcases zt (ne v.fields) with h_f | h_f
    rotate_left
    rcases zt (ne v.values) with h_v | h_v
    rotate_left
    rcases zt (ne v.roots) with h_r | h_r <;> rcases zt (ne v.dirs) with h_d | h_d <;> rcases zt (v.repeat') with h_rep | h_rep
    all_goals simp only [E_impl_belongs, zz0, zz1, zb, zi, zs, zl, Out.andThen_norm, Out.andThenB_ret, Out.andThenB_ex, Out.andThenB_norm, len_pos, len_zero, bne, eq_self, if_true, if_false, zf, Bool.not_true, Bool.not_false, Bool.and_true, Bool.true_and, Bool.and_false, Bool.false_and, Bool.or_true, Bool.true_or, Bool.or_false, Bool.false_or, Bool.or_self, Bool.and_self, ite_self, *]
  by_cases k8 : v.kind = 8
  · obtain ⟨c2, c3, c4, c5, c6, c7, c8⟩ := kind_facts8 k8
    clear k2 k3 k4 k5 k6 k7 k8
    rcases zt (ne v.fields) with h_f | h_f
    rotate_left
    rcases zt (ne v.faces) with h_fa | h_fa
    rotate_left
    rcases zt (ne v.inputs) with h_i | h_i
    rotate_left
    rcases zt (ne v.values) with h_v | h_v
    rotate_left
    rcases zt (ne v.roots) with h_r | h_r <;> rcases zt (ne v.dirs) with h_d | h_d <;> rcases zt (v.repeat') with h_rep | h_rep
    all_goals simp only [E_impl_belongs, zz0, zz1, zb, zi, zs, zl, Out.andThen_norm, Out.andThenB_ret, Out.andThenB_ex, Out.andThenB_norm, len_pos, len_zero, bne, eq_self, if_true, if_false, zf, Bool.not_true, Bool.not_false, Bool.and_true, Bool.true_and, Bool.and_false, Bool.false_and, Bool.or_true, Bool.true_or, Bool.or_false, Bool.false_or, Bool.or_self, Bool.and_self, ite_self, *]
  obtain ⟨c2, c3, c4, c5, c6, c7, c8⟩ := kind_facts0 k2 k3 k4 k5 k6 k7 k8
  clear k2 k3 k4 k5 k6 k7 k8
  rcases zt (ne v.fields) with h_f | h_f
  rotate_left
  rcases zt (ne v.faces) with h_fa | h_fa
  rotate_left
  rcases zt (ne v.inputs) with h_i | h_i
  rotate_left
  rcases zt (ne v.values) with h_v | h_v
  rotate_left
  rcases zt (ne v.roots) with h_r | h_r <;> rcases zt (ne v.dirs) with h_d | h_d <;> rcases zt (v.repeat') with h_rep | h_rep
  all_goals simp only [E_impl_belongs, zz0, zz1, zb, zi, zs, zl, Out.andThen_norm, Out.andThenB_ret, Out.andThenB_ex, Out.andThenB_norm, len_pos, len_zero, bne, eq_self, if_true, if_false, zf, Bool.not_true, Bool.not_false, Bool.and_true, Bool.true_and, Bool.and_false, Bool.false_and, Bool.or_true, Bool.true_or, Bool.or_false, Bool.false_or, Bool.or_self, Bool.and_self, ite_self, *]
noncomputable def partsOk (v : TDef) : Bool := v.fields.all fieldOk && (insOk v.inputs && (v.values.all enumOk && (v.roots.all rootOk && (v.faces.all nameOk && constsOk v.dirs))))
theorem strs_wt {l : List (List UInt8)} {n : Nat} (h : DC.wt (.sl (l.map S1)) ≤ n) : ∀ x ∈ l, x.length ≤ n := fun x hx => by
  have := (sl_wt h).2 x hx
  simpa [S1, wtL, DC.wt] using this
theorem impl_partsOk (v : TDef) (hw : wtL v.enc ≤ 1048576) : r_impl_partsOk [.i v.kind, .b v.ext, .s v.desc, .s v.name, .sl (v.faces.map S1), .sl (v.fields.map TFieldDef.enc), .sl (v.inputs.map TInDef.enc), .sl (v.values.map TEnumDef.enc), .sl (v.roots.map TRoot.enc), .b v.repeat', .sl (v.dirs.map TDir.enc)] = .ret [.b (partsOk v)] := by
  have hl := def_lens v hw
  rw [def_wt] at hw
  have h1 := (sl_wt (l := v.fields) (enc := TFieldDef.enc) (n := 1048576) (by omega)).2
  have h3 := (sl_wt (l := v.values) (enc := TEnumDef.enc) (n := 1048576) (by omega)).2
  have h4 := (sl_wt (l := v.roots) (enc := TRoot.enc) (n := 1048576) (by omega)).2
  have h5 := strs_wt (l := v.faces) (n := 1048576) (by omega)
  have e1 := cf_impl_partsOk_1 fieldOk v.fields (by omega) fun x hm => by
    rw [eq_impl_partsOk_1]; simp only [E_impl_partsOk_1, zz0, zz1, zb, zi, zs, zl, impl_fieldOk x (h1 x hm), zr]
  have e3 := cf_impl_partsOk_2 enumOk v.values (by omega) fun x hm => by
    rw [eq_impl_partsOk_2]; simp only [E_impl_partsOk_2, zz0, zz1, zb, zi, zs, zl, impl_enumOk x (h3 x hm), zr]
  have e4 := cf_impl_partsOk_3 rootOk v.roots (by omega) fun x hm => by
    rw [eq_impl_partsOk_3]; simp only [E_impl_partsOk_3, zz0, zz1, zb, zi, zs, zl, impl_rootOk x (h4 x hm), zr]
  have e5 := cf_impl_partsOk_4 nameOk v.faces (by omega) fun x hm => by
    rw [eq_impl_partsOk_4]; simp only [E_impl_partsOk_4, zz0, zz1, zb, zi, zs, zl, impl_NameOk x (h5 x hm), zr]
  rw [eq_impl_partsOk]
  simp only [E_impl_partsOk, zz0, zz1, zb, zi, zs, zl, e1, impl_insOk v.inputs (by omega), e3, e4, e5, impl_constDirs v.dirs (by omega), zr, partsOk]
  generalize v.fields.all fieldOk = p1
  generalize insOk v.inputs = p2
  generalize v.values.all enumOk = p3
  generalize v.roots.all rootOk = p4
  generalize v.faces.all nameOk = p5
  cases p1 <;> cases p2 <;> cases p3 <;> cases p4 <;> cases p5 <;> simp
noncomputable def dfOk (v : TDef) : Bool := (decide (1 ≤ v.kind) && decide (v.kind ≤ 8)) && (descOk v.desc && ((!v.ext || (v.desc == [] && some6 v)) && (partsOk v && (blB v.kind v.repeat' (ne v.faces) (ne v.fields) (ne v.inputs) (ne v.values) (ne v.roots) (ne v.dirs) &&
  (if (v.kind == 7) = true then nameOk v.name && (!v.ext && (ne v.faces && placesOk v.faces)) else if (v.kind == 8) = true then v.name == [] && (v.ext || ne v.roots) else nameOk v.name)))))
theorem impl_DefOk (v : TDef) (hw : wtL v.enc ≤ 1048576) : r_impl_DefOk [.i v.kind, .b v.ext, .s v.desc, .s v.name, .sl (v.faces.map S1), .sl (v.fields.map TFieldDef.enc), .sl (v.inputs.map TInDef.enc), .sl (v.values.map TEnumDef.enc), .sl (v.roots.map TRoot.enc), .b v.repeat', .sl (v.dirs.map TDir.enc)] = .ret [.b (dfOk v)] := by
  have hl := def_lens v hw
  have e1 := impl_partsOk v hw
  have e2 := impl_belongs v
  have e3 := impl_something v hw
  rw [def_wt] at hw
  have e4 := cf_impl_DefOk_1 placeOk v.faces (by omega) fun x hm => by
    rw [eq_impl_DefOk_1]; simp only [E_impl_DefOk_1, zz0, zz1, zb, zi, zs, zl, impl_PlaceOk, zr]
  rw [show v.faces.all placeOk = placesOk v.faces from rfl] at e4
  have hn := impl_NameOk v.name (by omega)
  have hd := impl_descOk v.desc (by omega)
  rw [eq_impl_DefOk]
  unfold dfOk
  generalize blB v.kind v.repeat' (ne v.faces) (ne v.fields) (ne v.inputs) (ne v.values) (ne v.roots) (ne v.dirs) = bl at e2 ⊢
  rcases (zt ((decide (1 ≤ v.kind) && decide (v.kind ≤ 8)))).symm with h_0 | h_0
  rotate_left
  rcases (zt (descOk v.desc)).symm with h_1 | h_1
  rotate_left
  rcases zt v.ext with h_ext | h_ext <;> simp only [h_ext] at e1 e2 e3
  · rcases (zt (v.desc == ([] : List UInt8))).symm with h_2 | h_2
    rotate_left
    rcases (zt (some6 v)).symm with h_3 | h_3
    rotate_left
    rcases (zt (partsOk v)).symm with h_4 | h_4
    rotate_left
    rcases (zt (bl)).symm with h_5 | h_5
    rotate_left
    rcases zt (v.kind == 7) with c7 | c7
    rcases zt (nameOk v.name) with h_n | h_n <;> rcases zt (ne v.faces) with h_f | h_f <;> rcases zt (placesOk v.faces) with h_p | h_p
    rotate_left 8
    rcases zt (v.kind == 8) with c8 | c8
    rcases zt (v.name == ([] : List UInt8)) with h_n | h_n <;> rcases zt (ne v.roots) with h_r | h_r
    all_goals simp only [E_impl_DefOk, zz0, zz1, zb, zi, zs, zl, Out.andThen_norm, Out.andThenB_ret, Out.andThenB_ex, Out.andThenB_norm, len_pos, len_zero, bne, eq_self, if_true, if_false, zf, Bool.not_true, Bool.not_false, Bool.and_true, Bool.true_and, Bool.and_false, Bool.false_and, Bool.or_true, Bool.true_or, Bool.or_false, Bool.false_or, Bool.or_self, Bool.and_self, zr, impl_in, *]
  · rcases (zt (partsOk v)).symm with h_4 | h_4
    rotate_left
    rcases (zt (bl)).symm with h_5 | h_5
    rotate_left
    rcases zt (v.kind == 7) with c7 | c7
    rcases zt (nameOk v.name) with h_n | h_n <;> rcases zt (ne v.faces) with h_f | h_f <;> rcases zt (placesOk v.faces) with h_p | h_p
    rotate_left 8
    rcases zt (v.kind == 8) with c8 | c8
    rcases zt (v.name == ([] : List UInt8)) with h_n | h_n <;> rcases zt (ne v.roots) with h_r | h_r
    all_goals simp only [E_impl_DefOk, zz0, zz1, zb, zi, zs, zl, Out.andThen_norm, Out.andThenB_ret, Out.andThenB_ex, Out.andThenB_norm, len_pos, len_zero, bne, eq_self, if_true, if_false, zf, Bool.not_true, Bool.not_false, Bool.and_true, Bool.true_and, Bool.and_false, Bool.false_and, Bool.or_true, Bool.true_or, Bool.or_false, Bool.false_or, Bool.or_self, Bool.and_self, zr, impl_in, *]
  all_goals simp only [E_impl_DefOk, zz0, zz1, zb, zi, zs, zl, Out.andThen_norm, Out.andThenB_ret, Out.andThenB_ex, Out.andThenB_norm, len_pos, len_zero, bne, eq_self, if_true, if_false, zf, Bool.not_true, Bool.not_false, Bool.and_true, Bool.true_and, Bool.and_false, Bool.false_and, Bool.or_true, Bool.true_or, Bool.or_false, Bool.false_or, Bool.or_self, Bool.and_self, zr, impl_in, *]
theorem kinds_agree (K : Int) (ext nn rep fa f i v r d pl nm : Bool) (hK : 1 ≤ K ∧ K ≤ 8) :
    (mayB K ext nn rep fa f i v r d pl && (K == 8 || nm)) = (blB K rep fa f i v r d && (if (K == 7) = true then nm && (!ext && (fa && pl)) else if (K == 8) = true then nn && (ext || r) else nm)) := by
  have : K = 1 ∨ K = 2 ∨ K = 3 ∨ K = 4 ∨ K = 5 ∨ K = 6 ∨ K = 7 ∨ K = 8 := by omega
  rcases this with rfl | rfl | rfl | rfl | rfl | rfl | rfl | rfl <;> revert ext nn rep fa f i v r d pl nm <;> decide +kernel
theorem spec_DefOk (v : TDef) (hw : wtL v.enc ≤ 1048576) : r_spec_DefOk [.i v.kind, .b v.ext, .s v.desc, .s v.name, .sl (v.faces.map S1), .sl (v.fields.map TFieldDef.enc), .sl (v.inputs.map TInDef.enc), .sl (v.values.map TEnumDef.enc), .sl (v.roots.map TRoot.enc), .b v.repeat', .sl (v.dirs.map TDir.enc)] = .ret [.b (dfOk v)] := by
  have hl := def_lens v hw
  have e2 := spec_l13May v hw
  have e3 := spec_l13Has v hw
  rw [def_wt] at hw
  have h1 := (sl_wt (l := v.fields) (enc := TFieldDef.enc) (n := 1048576) (by omega)).2
  have h3 := (sl_wt (l := v.values) (enc := TEnumDef.enc) (n := 1048576) (by omega)).2
  have h4 := (sl_wt (l := v.roots) (enc := TRoot.enc) (n := 1048576) (by omega)).2
  have h5 := strs_wt (l := v.faces) (n := 1048576) (by omega)
  have l1 : Loop E_spec_DefOkL1 [.i 0, .i v.kind, .b v.ext, .s v.desc, .s v.name, .sl (v.faces.map S1), .sl (v.fields.map TFieldDef.enc), .sl (v.inputs.map TInDef.enc), .sl (v.values.map TEnumDef.enc), .sl (v.roots.map TRoot.enc), .b v.repeat', .sl (v.dirs.map TDir.enc)] = if v.faces.all nameOk = true then .ex 0 [.i v.kind, .b v.ext, .s v.desc, .s v.name, .sl (v.faces.map S1), .sl (v.fields.map TFieldDef.enc), .sl (v.inputs.map TInDef.enc), .sl (v.values.map TEnumDef.enc), .sl (v.roots.map TRoot.enc), .b v.repeat', .sl (v.dirs.map TDir.enc)] else .ret [.b false] := by
    rw [show (0 : Int) = ((0 : Nat) : Int) from rfl, Loop_find0 (l := v.faces) (st := fun i => [.i (i : Int), .i v.kind, .b v.ext, .s v.desc, .s v.name, .sl (v.faces.map S1), .sl (v.fields.map TFieldDef.enc), .sl (v.inputs.map TInDef.enc), .sl (v.values.map TEnumDef.enc), .sl (v.roots.map TRoot.enc), .b v.repeat', .sl (v.dirs.map TDir.enc)]) (p := fun x => !nameOk x) (stop := fun i _ => .ret [.b false]) (fin := .ex 0 [.i v.kind, .b v.ext, .s v.desc, .s v.name, .sl (v.faces.map S1), .sl (v.fields.map TFieldDef.enc), .sl (v.inputs.map TInDef.enc), .sl (v.values.map TEnumDef.enc), .sl (v.roots.map TRoot.enc), .b v.repeat', .sl (v.dirs.map TDir.enc)]) (fun i hi => ?step) (fun _ _ => Out.esc_ret _) ?fin (Out.esc_ex _ _), goF_any]
    · rw [show (v.faces.any fun x => !nameOk x) = !(v.faces.all nameOk) by rw [List.not_all_eq_any_not]]
      cases v.faces.all nameOk <;> simp
    case step =>
      have hx := spec_NameOk v.faces[i] (h5 _ (List.getElem_mem hi))
      have c2 : 0 ≤ (i : Int) ∧ (i : Int) < (v.faces.length : Int) := by omega
      have d : decide ((i : Int) < (v.faces.length : Int)) = true := decide_eq_true (by omega)
      simp only [E_spec_DefOkL1, zz0, zz1, zb, zi, zs, zl, Int.toNat_natCast, zm, map_getD hi, d, c2, S1, hx, zr, true_and, and_self, if_true, decide_true]
      rcases zt (nameOk v.faces[i]) with q | q <;> simp [q, wrap_succ hi (show v.faces.length ≤ 9223372036854775807 by omega)]
    case fin => simp [E_spec_DefOkL1]
  have l2 : Loop E_spec_DefOkL2 [.i 0, .i v.kind, .b v.ext, .s v.desc, .s v.name, .sl (v.faces.map S1), .sl (v.fields.map TFieldDef.enc), .sl (v.inputs.map TInDef.enc), .sl (v.values.map TEnumDef.enc), .sl (v.roots.map TRoot.enc), .b v.repeat', .sl (v.dirs.map TDir.enc)] = if v.fields.all fieldOk = true then .ex 2 [.i v.kind, .b v.ext, .s v.desc, .s v.name, .sl (v.faces.map S1), .sl (v.fields.map TFieldDef.enc), .sl (v.inputs.map TInDef.enc), .sl (v.values.map TEnumDef.enc), .sl (v.roots.map TRoot.enc), .b v.repeat', .sl (v.dirs.map TDir.enc)] else .ret [.b false] := by
    rw [show (0 : Int) = ((0 : Nat) : Int) from rfl, Loop_find0 (l := v.fields) (st := fun i => [.i (i : Int), .i v.kind, .b v.ext, .s v.desc, .s v.name, .sl (v.faces.map S1), .sl (v.fields.map TFieldDef.enc), .sl (v.inputs.map TInDef.enc), .sl (v.values.map TEnumDef.enc), .sl (v.roots.map TRoot.enc), .b v.repeat', .sl (v.dirs.map TDir.enc)]) (p := fun x => !fieldOk x) (stop := fun i _ => .ret [.b false]) (fin := .ex 2 [.i v.kind, .b v.ext, .s v.desc, .s v.name, .sl (v.faces.map S1), .sl (v.fields.map TFieldDef.enc), .sl (v.inputs.map TInDef.enc), .sl (v.values.map TEnumDef.enc), .sl (v.roots.map TRoot.enc), .b v.repeat', .sl (v.dirs.map TDir.enc)]) (fun i hi => ?step) (fun _ _ => Out.esc_ret _) ?fin (Out.esc_ex _ _), goF_any]
    · rw [show (v.fields.any fun x => !fieldOk x) = !(v.fields.all fieldOk) by rw [List.not_all_eq_any_not]]
      cases v.fields.all fieldOk <;> simp
    case step =>
      have hx := spec_l13Field v.fields[i] (h1 _ (List.getElem_mem hi))
      have c2 : 0 ≤ (i : Int) ∧ (i : Int) < (v.fields.length : Int) := by omega
      have d : decide ((i : Int) < (v.fields.length : Int)) = true := decide_eq_true (by omega)
      simp only [E_spec_DefOkL2, zz0, zz1, zb, zi, zs, zl, Int.toNat_natCast, zm, map_getD hi, d, c2, TFieldDef.enc_eq, hx, zr, true_and, and_self, if_true, decide_true]
      rcases zt (fieldOk v.fields[i]) with q | q <;> simp [q, wrap_succ hi (show v.fields.length ≤ 9223372036854775807 by omega)]
    case fin => simp [E_spec_DefOkL2]
  have l3 : Loop E_spec_DefOkL3 [.i 0, .i v.kind, .b v.ext, .s v.desc, .s v.name, .sl (v.faces.map S1), .sl (v.fields.map TFieldDef.enc), .sl (v.inputs.map TInDef.enc), .sl (v.values.map TEnumDef.enc), .sl (v.roots.map TRoot.enc), .b v.repeat', .sl (v.dirs.map TDir.enc)] = if v.values.all enumOk = true then .ex 4 [.i v.kind, .b v.ext, .s v.desc, .s v.name, .sl (v.faces.map S1), .sl (v.fields.map TFieldDef.enc), .sl (v.inputs.map TInDef.enc), .sl (v.values.map TEnumDef.enc), .sl (v.roots.map TRoot.enc), .b v.repeat', .sl (v.dirs.map TDir.enc)] else .ret [.b false] := by
    rw [show (0 : Int) = ((0 : Nat) : Int) from rfl, Loop_find0 (l := v.values) (st := fun i => [.i (i : Int), .i v.kind, .b v.ext, .s v.desc, .s v.name, .sl (v.faces.map S1), .sl (v.fields.map TFieldDef.enc), .sl (v.inputs.map TInDef.enc), .sl (v.values.map TEnumDef.enc), .sl (v.roots.map TRoot.enc), .b v.repeat', .sl (v.dirs.map TDir.enc)]) (p := fun x => !enumOk x) (stop := fun i _ => .ret [.b false]) (fin := .ex 4 [.i v.kind, .b v.ext, .s v.desc, .s v.name, .sl (v.faces.map S1), .sl (v.fields.map TFieldDef.enc), .sl (v.inputs.map TInDef.enc), .sl (v.values.map TEnumDef.enc), .sl (v.roots.map TRoot.enc), .b v.repeat', .sl (v.dirs.map TDir.enc)]) (fun i hi => ?step) (fun _ _ => Out.esc_ret _) ?fin (Out.esc_ex _ _), goF_any]
    · rw [show (v.values.any fun x => !enumOk x) = !(v.values.all enumOk) by rw [List.not_all_eq_any_not]]
      cases v.values.all enumOk <;> simp
    case step =>
      have hw3 := h3 _ (List.getElem_mem hi)
      rw [enum_wt] at hw3
      have x1 := spec_NameOk v.values[i].name (by omega)
      have x2 := spec_l13Desc v.values[i].desc (by omega)
      have x3 := spec_l12Consts v.values[i].dirs (by omega)
      have c2 : 0 ≤ (i : Int) ∧ (i : Int) < (v.values.length : Int) := by omega
      have d : decide ((i : Int) < (v.values.length : Int)) = true := decide_eq_true (by omega)
      simp only [E_spec_DefOkL3, zz0, zz1, zb, zi, zs, zl, Int.toNat_natCast, zm, map_getD hi, d, c2, TEnumDef.enc_eq, x1, spec_Word, x2, x3, zr, true_and, and_self, if_true, decide_true]
      unfold enumOk
      rcases zt (nameOk v.values[i].name) with a1 | a1 <;> rcases zt (word v.values[i].name) with a2 | a2 <;> rcases zt (descOk v.values[i].desc) with a3 | a3 <;> rcases zt (constsOk v.values[i].dirs) with a4 | a4 <;> simp [a1, a2, a3, a4, wrap_succ hi (show v.values.length ≤ 9223372036854775807 by omega)]
    case fin => simp [E_spec_DefOkL3]
  have l4 : Loop E_spec_DefOkL4 [.i 0, .i v.kind, .b v.ext, .s v.desc, .s v.name, .sl (v.faces.map S1), .sl (v.fields.map TFieldDef.enc), .sl (v.inputs.map TInDef.enc), .sl (v.values.map TEnumDef.enc), .sl (v.roots.map TRoot.enc), .b v.repeat', .sl (v.dirs.map TDir.enc)] = if v.roots.all rootOk = true then .ex 6 [] else .ret [.b false] := by
    rw [show (0 : Int) = ((0 : Nat) : Int) from rfl, Loop_find0 (l := v.roots) (st := fun i => [.i (i : Int), .i v.kind, .b v.ext, .s v.desc, .s v.name, .sl (v.faces.map S1), .sl (v.fields.map TFieldDef.enc), .sl (v.inputs.map TInDef.enc), .sl (v.values.map TEnumDef.enc), .sl (v.roots.map TRoot.enc), .b v.repeat', .sl (v.dirs.map TDir.enc)]) (p := fun x => !rootOk x) (stop := fun i _ => .ret [.b false]) (fin := .ex 6 []) (fun i hi => ?step) (fun _ _ => Out.esc_ret _) ?fin (Out.esc_ex _ _), goF_any]
    · rw [show (v.roots.any fun x => !rootOk x) = !(v.roots.all rootOk) by rw [List.not_all_eq_any_not]]
      cases v.roots.all rootOk <;> simp
    case step =>
      have hw3 := h4 _ (List.getElem_mem hi)
      rw [root_wt] at hw3
      have x1 := spec_NameOk v.roots[i].type' (by omega)
      have c2 : 0 ≤ (i : Int) ∧ (i : Int) < (v.roots.length : Int) := by omega
      have d : decide ((i : Int) < (v.roots.length : Int)) = true := decide_eq_true (by omega)
      simp only [E_spec_DefOkL4, zz0, zz1, zb, zi, zs, zl, Int.toNat_natCast, zm, map_getD hi, d, c2, TRoot.enc_eq, spec_OpWord, word_nil, x1, zr, true_and, and_self, if_true, decide_true]
      unfold rootOk kind3
      rcases zt (v.roots[i].kind == 1 || (v.roots[i].kind == 2 || v.roots[i].kind == 3)) with a1 | a1 <;> rcases zt (nameOk v.roots[i].type') with a2 | a2 <;> simp only [a1, a2] <;> simp [wrap_succ hi (show v.roots.length ≤ 9223372036854775807 by omega)]
    case fin => simp [E_spec_DefOkL4]
  have hN := spec_NameOk v.name (by omega)
  have hI := spec_l13Ins v.inputs (by omega)
  have hC := spec_l12Consts v.dirs (by omega)
  have hd := spec_l13Desc v.desc (by omega)
  rw [eq_spec_DefOk]
  unfold dfOk
  rcases (zt (decide (1 ≤ v.kind) && decide (v.kind ≤ 8))).symm with h_0 | h_0
  · simp only [E_spec_DefOk, zz0, zz1, zb, zi, zs, zl, Out.andThen_norm, Out.andThenB_ret, Out.andThenB_ex, Out.andThenB_norm, len_pos, len_zero, bne, eq_self, if_true, if_false, zf, Bool.not_true, Bool.not_false, Bool.and_true, Bool.true_and, Bool.and_false, Bool.false_and, Bool.or_true, Bool.true_or, Bool.or_false, Bool.false_or, Bool.or_self, Bool.and_self, zr, spec_l01In, h_0]
  have hK : 1 ≤ v.kind ∧ v.kind ≤ 8 := by
    rw [← Bool.decide_and] at h_0
    exact of_decide_eq_true h_0
  rw [← kinds_agree v.kind v.ext (v.name == []) v.repeat' (ne v.faces) (ne v.fields) (ne v.inputs) (ne v.values) (ne v.roots) (ne v.dirs) (placesOk v.faces) (nameOk v.name) hK]
  clear hK
  unfold partsOk
  generalize mayB v.kind v.ext (v.name == []) v.repeat' (ne v.faces) (ne v.fields) (ne v.inputs) (ne v.values) (ne v.roots) (ne v.dirs) (placesOk v.faces) = m at *
  rcases (zt (descOk v.desc)).symm with h_1 | h_1
  rotate_left
  rcases zt v.ext with h_ext | h_ext <;> simp only [h_ext] at e2 e3 l1 l2 l3 l4
  · rcases (zt (v.desc == ([] : List UInt8))).symm with h_2 | h_2
    rotate_left
    rcases (zt (some6 v)).symm with h_3 | h_3
    rotate_left
    rcases (zt (m)).symm with h_m | h_m
    rotate_left
    rcases (zt (insOk v.inputs)).symm with h_i | h_i
    rotate_left
    rcases (zt (constsOk v.dirs)).symm with h_c | h_c
    rotate_left
    rcases zt (v.kind == 8) with c8 | c8 <;> rcases zt (nameOk v.name) with h_n | h_n <;> rcases zt (v.faces.all nameOk) with z1 | z1 <;> rcases zt (v.fields.all fieldOk) with z2 | z2 <;> rcases zt (v.values.all enumOk) with z3 | z3 <;> rcases zt (v.roots.all rootOk) with z4 | z4
    all_goals simp only [E_spec_DefOk, zz0, zz1, zb, zi, zs, zl, Out.andThen_norm, Out.andThenB_ret, Out.andThenB_ex, Out.andThenB_norm, len_pos, len_zero, bne, eq_self, if_true, if_false, zf, Bool.not_true, Bool.not_false, Bool.and_true, Bool.true_and, Bool.and_false, Bool.false_and, Bool.or_true, Bool.true_or, Bool.or_false, Bool.false_or, Bool.or_self, Bool.and_self, zr, spec_l01In, ite_self, *]
  · rcases (zt (m)).symm with h_m | h_m
    rotate_left
    rcases (zt (insOk v.inputs)).symm with h_i | h_i
    rotate_left
    rcases (zt (constsOk v.dirs)).symm with h_c | h_c
    rotate_left
    rcases zt (v.kind == 8) with c8 | c8 <;> rcases zt (nameOk v.name) with h_n | h_n <;> rcases zt (v.faces.all nameOk) with z1 | z1 <;> rcases zt (v.fields.all fieldOk) with z2 | z2 <;> rcases zt (v.values.all enumOk) with z3 | z3 <;> rcases zt (v.roots.all rootOk) with z4 | z4
    all_goals simp only [E_spec_DefOk, zz0, zz1, zb, zi, zs, zl, Out.andThen_norm, Out.andThenB_ret, Out.andThenB_ex, Out.andThenB_norm, len_pos, len_zero, bne, eq_self, if_true, if_false, zf, Bool.not_true, Bool.not_false, Bool.and_true, Bool.true_and, Bool.and_false, Bool.false_and, Bool.or_true, Bool.true_or, Bool.or_false, Bool.false_or, Bool.or_self, Bool.and_self, zr, spec_l01In, ite_self, *]
  all_goals simp only [E_spec_DefOk, zz0, zz1, zb, zi, zs, zl, Out.andThen_norm, Out.andThenB_ret, Out.andThenB_ex, Out.andThenB_norm, len_pos, len_zero, bne, eq_self, if_true, if_false, zf, Bool.not_true, Bool.not_false, Bool.and_true, Bool.true_and, Bool.and_false, Bool.false_and, Bool.or_true, Bool.true_or, Bool.or_false, Bool.false_or, Bool.or_self, Bool.and_self, zr, spec_l01In, ite_self, *]
theorem and_st {o : Out} {K : List DC → Out} {x : List DC} {r : Out} (h : o = .norm x) (k : K x = r) : Out.andThen o K = r := by rw [h]; exact k
theorem andB_ex {o : Out} {n : Nat} {K : List DC → Out} {x : List DC} {r : Out} (h : o = .ex n x) (k : K x = r) : Out.andThenB o n K = r := by
  rw [h]
  simpa [Out.andThenB] using k
theorem andB_nm {o : Out} {n : Nat} {K : List DC → Out} {x : List DC} {r : Out} (h : o = .norm x) (k : K x = r) : Out.andThenB o n K = r := by
  rw [h, Out.andThenB_norm]
  exact k
theorem bind_st {o : Out} {K : List DC → Out} {x : List DC} {r : Out} (h : o = .ret x) (k : K x = r) : o.bindR K = r := by rw [h]; exact k
def wordD (k : Int) : List UInt8 := if k = 1 then [113, 117, 101, 114, 121] else if k = 2 then [109, 117, 116, 97, 116, 105, 111, 110] else if k = 3 then [115, 117, 98, 115, 99, 114, 105, 112, 116, 105, 111, 110] else []
theorem wordD_len (k : Int) : (wordD k).length ≤ 12 := by
  unfold wordD
  split
  · simp
  split
  · simp
  split <;> simp
def kwT (k : Int) : List UInt8 := if k = 1 then [115, 99, 97, 108, 97, 114] else if k = 2 then [116, 121, 112, 101] else if k = 3 then [105, 110, 116, 101, 114, 102, 97, 99, 101] else if k = 4 then [117, 110, 105, 111, 110] else if k = 5 then [101, 110, 117, 109] else if k = 6 then [105, 110, 112, 117, 116] else if k = 7 then [100, 105, 114, 101, 99, 116, 105, 118, 101] else if k = 8 then [115, 99, 104, 101, 109, 97] else []
theorem kwT_len (k : Int) : (kwT k).length ≤ 12 := by
  unfold kwT
  repeat' split
  all_goals simp
def desc0 (s : List UInt8) : List UInt8 := if s = [] then [] else escaped s ++ [10]
def enumT (v : TEnumDef) : List UInt8 := descT v.desc ++ ([32, 32] ++ (v.name ++ (dirsT v.dirs ++ [10])))
def rootT (v : TRoot) : List UInt8 := [32, 32] ++ (wordD v.kind ++ ([58, 32] ++ (v.type' ++ [10])))
def inlT (v : TInDef) : List UInt8 := [32, 32] ++ (inT v ++ [10])
def lines1 (v : TDef) : List UInt8 := jt [] [] fieldT v.fields
def lines2 (v : TDef) : List UInt8 := lines1 v ++ jt [] [] enumT v.values
def lines3 (v : TDef) : List UInt8 := lines2 v ++ jt [] [] rootT v.roots
def linesT (v : TDef) : List UInt8 := lines3 v ++ (if v.kind = 6 then jt [] [] inlT v.inputs else [])
def headDT (v : TDef) : List UInt8 :=
  if v.kind = 8 then [] else if v.kind = 7 then [32, 64] ++ (v.name ++ (insT v.inputs ++ ((if v.repeat' = true then [32, 114, 101, 112, 101, 97, 116, 97, 98, 108, 101] else []) ++ ([32, 111, 110, 32] ++ Lib.join v.faces [32, 124, 32])))) else 32 :: v.name
def facesT (v : TDef) : List UInt8 := if (v.kind = 2 ∨ v.kind = 3) ∧ v.faces ≠ [] then [32, 105, 109, 112, 108, 101, 109, 101, 110, 116, 115, 32] ++ Lib.join v.faces [32, 38, 32] else []
def unionT (v : TDef) : List UInt8 := if v.kind = 4 ∧ v.faces ≠ [] then [32, 61, 32] ++ Lib.join v.faces [32, 124, 32] else []
def d1 (v : TDef) : List UInt8 := desc0 v.desc
def d2 (v : TDef) : List UInt8 := d1 v ++ (if v.ext = true then [101, 120, 116, 101, 110, 100, 32] else [])
def d3 (v : TDef) : List UInt8 := d2 v ++ kwT v.kind
def d4 (v : TDef) : List UInt8 := d3 v ++ headDT v
def d5 (v : TDef) : List UInt8 := d4 v ++ facesT v
def d6 (v : TDef) : List UInt8 := d5 v ++ dirsT v.dirs
def d7 (v : TDef) : List UInt8 := d6 v ++ unionT v
def d8 (v : TDef) : List UInt8 := d7 v ++ (if linesT v = [] then [] else [32, 123, 10] ++ (linesT v ++ [125]))
def defT (v : TDef) : List UInt8 := d8 v ++ [10]
noncomputable def defText (v : TDef) : List UInt8 := if dfOk v = true then defT v else []
theorem join3_len (ws sep : List (List UInt8)) (s : List UInt8) (hs : s.length = 3) : (Lib.join ws s).length ≤ (ws.map List.length).sum + 3 * ws.length := by
  cases ws with
  | nil => simp [Lib.join]
  | cons x l =>
    rw [Lib.join_cons, Lib.joinTail]
    have : ((l.map (s ++ ·)).flatten).length = (l.map List.length).sum + 3 * l.length := by
      induction l with
      | nil => rfl
      | cons a l ih => simp only [List.map_cons, List.flatten_cons, List.length_append, List.sum_cons, List.length_cons, ih, hs]; omega
    simp only [List.length_append, List.map_cons, List.sum_cons, List.length_cons, this]
    omega
theorem faces_len (ws : List (List UInt8)) (s : List UInt8) (hs : s.length = 3) : (Lib.join ws s).length ≤ 3 * DC.wt (.sl (ws.map S1)) := by
  have h := join3_len ws [] s hs
  rw [DC.wt, wtV_S1, zm]
  omega
theorem desc0_len (s : List UInt8) : (desc0 s).length ≤ 6 * s.length + 3 := by
  have := escaped_len s
  unfold desc0
  split
  · simp
  · simp only [List.length_append, List.length_cons, List.length_nil]; omega
theorem enumT_len (v : TEnumDef) : (enumT v).length ≤ 40 * wtL v.enc + 40 := by
  have h1 := desc_len v.desc
  have h4 := dirs_len v.dirs
  rw [enum_wt]
  unfold enumT
  simp only [List.length_append, List.length_cons, List.length_nil]
  omega
theorem rootT_len (v : TRoot) : (rootT v).length ≤ 40 * wtL v.enc + 40 := by
  have h1 := wordD_len v.kind
  rw [root_wt]
  unfold rootT
  simp only [List.length_append, List.length_cons, List.length_nil]
  omega
theorem inlT_len (v : TInDef) (h : inOk v = true) : (inlT v).length ≤ 40 * wtL v.enc + 40 := by
  have h1 := in_len v h
  unfold inlT
  simp only [List.length_append, List.length_cons, List.length_nil]
  omega
theorem def_facts {v : TDef} (h : dfOk v = true) : (1 ≤ v.kind ∧ v.kind ≤ 8) ∧ (∀ x ∈ v.fields, fieldOk x = true) ∧ insOk v.inputs = true ∧ (∀ x ∈ v.values, dirsOk x.dirs = true) ∧ dirsOk v.dirs = true := by
  simp only [dfOk, partsOk, Bool.and_eq_true, decide_eq_true_eq] at h
  obtain ⟨h1, h2, h3, ⟨h4, h5, h6, h7, h8, h9⟩, h10⟩ := h
  refine ⟨h1, fun x hx => List.all_eq_true.1 h4 x hx, h5, fun x hx => ?_, ?_⟩
  · have := List.all_eq_true.1 h6 x hx
    simp only [enumOk, constsOk, Bool.and_eq_true] at this
    exact this.2.2.2.1
  · simp only [constsOk, Bool.and_eq_true] at h9
    exact h9.1
theorem lines_len {v : TDef} (h : dfOk v = true) : (linesT v).length ≤ 40 * wtL v.enc := by
  obtain ⟨g0, g1, g2, g3, g4⟩ := def_facts h
  have h1 := flat_len (enc := TFieldDef.enc) (f := fieldT) (a := 40) v.fields fun x hx => fieldT_len x (g1 x hx)
  have h2 := flat_len (enc := TEnumDef.enc) (f := enumT) (a := 40) v.values fun x _ => enumT_len x
  have h3 := flat_len (enc := TRoot.enc) (f := rootT) (a := 40) v.roots fun x _ => rootT_len x
  have h4 := flat_len (enc := TInDef.enc) (f := inlT) (a := 40) v.inputs fun x hx => inlT_len x (ins_each g2 x hx)
  rw [def_wt]
  unfold linesT lines3 lines2 lines1
  simp only [List.length_append]
  split
  · omega
  · simp only [List.length_nil]; omega
theorem d7_len {v : TDef} (h : dfOk v = true) : (d1 v).length ≤ 6 * wtL v.enc + 3 ∧ (d2 v).length ≤ 6 * wtL v.enc + 10 ∧ (d3 v).length ≤ 6 * wtL v.enc + 22 ∧ (headDT v).length ≤ 50 * wtL v.enc + 60 ∧ (d4 v).length ≤ 60 * wtL v.enc + 100 ∧ (facesT v).length ≤ 3 * wtL v.enc + 20 ∧ (unionT v).length ≤ 3 * wtL v.enc + 20 ∧
    (dirsT v.dirs).length ≤ 8 * wtL v.enc ∧ (insT v.inputs).length ≤ 40 * wtL v.enc ∧ (∀ s : List UInt8, s.length = 3 → (Lib.join v.faces s).length ≤ 3 * wtL v.enc) ∧ v.name.length ≤ wtL v.enc := by
  obtain ⟨g0, g1, g2, g3, g4⟩ := def_facts h
  have l0 := desc0_len v.desc
  have l1 := kwT_len v.kind
  have l2 := ins_len v.inputs g2
  have l3 := dirs_len v.dirs
  have l4 := fun s hs => faces_len v.faces s hs
  have l5 := l4 [32, 124, 32] rfl
  have l6 := l4 [32, 38, 32] rfl
  have hw := def_wt v
  have e1 : (d1 v).length ≤ 6 * wtL v.enc + 3 := by unfold d1; omega
  have e2 : (d2 v).length ≤ 6 * wtL v.enc + 10 := by
    unfold d2 d1
    rw [List.length_append]
    split <;> simp only [List.length_cons, List.length_nil] <;> omega
  have e3 : (d3 v).length ≤ 6 * wtL v.enc + 22 := by
    unfold d3
    rw [List.length_append]
    omega
  have e4 : (headDT v).length ≤ 50 * wtL v.enc + 60 := by
    unfold headDT
    split
    · simp
    split
    · simp only [List.length_append, List.length_cons, List.length_nil]
      split <;> simp only [List.length_cons, List.length_nil] <;> omega
    · simp only [List.length_cons]; omega
  refine ⟨e1, e2, e3, e4, ?_, ?_, ?_, by omega, by omega, fun s hs => by have := l4 s hs; omega, by omega⟩
  · unfold d4
    rw [List.length_append]
    omega
  · unfold facesT
    split
    · simp only [List.length_append, List.length_cons, List.length_nil]; omega
    · simp
  · unfold unionT
    split
    · simp only [List.length_append, List.length_cons, List.length_nil]; omega
    · simp
theorem wordD_spec (k : Int) : r_spec_OpWord [.i k] = .ret [.s (wordD k)] := spec_OpWord k
theorem wordD_impl (k : Int) : r_impl_OpWord [.i k] = .ret [.s (wordD k)] := impl_OpWord k
theorem spec_word (k : Int) (h : 1 ≤ k ∧ k ≤ 8) : r_spec_l13Word [.i k] = .ret [.s (kwT k)] := by
  rw [eq_spec_l13Word]
  have : k = 1 ∨ k = 2 ∨ k = 3 ∨ k = 4 ∨ k = 5 ∨ k = 6 ∨ k = 7 ∨ k = 8 := by omega
  rcases this with rfl | rfl | rfl | rfl | rfl | rfl | rfl | rfl <;> rfl
theorem spec_names (l : List (List UInt8)) (sep out : List UInt8) (hl : l.length ≤ 1048576) (ho : out.length + (Lib.join l sep).length < 1073741824) :
    r_spec_l13Names [.sl (brows out), .sl (l.map S1), .s sep] = .ret [.sl (brows (out ++ Lib.join l sep))] := by
  have hj : jt [] sep id l = Lib.join l sep := by rw [jt_join, List.map_id]
  rw [← hj] at ho ⊢
  have hlp := jt_loop (o := []) (sep := sep) (f := id) (l := l) (st := fun i cur => [.sl (brows cur), .sl (l.map S1), .s sep, .i (i : Int)]) (F := E_spec_l13NamesL1) (res := .ex 0 [.sl (brows (out ++ jt [] sep id l))]) out
    (fun i hi cur hc => ?step) ?fin (Out.esc_ex _ _)
  case fin => simp [E_spec_l13NamesL1]
  case step =>
    have c2 : 0 ≤ (i : Int) ∧ (i : Int) < (l.length : Int) := by omega
    have d : decide ((i : Int) < (l.length : Int)) = true := decide_eq_true (by omega)
    have wi := wrap_succ hi (show l.length ≤ 9223372036854775807 by omega)
    by_cases h0 : i = 0
    · have c0 : decide ((i : Int) > 0) = false := decide_eq_false (by omega)
      rw [if_pos h0] at hc ⊢
      simp only [List.length_append, List.length_cons, List.length_nil, id] at hc
      simp (disch := first | omega | (simp only [List.length_append, List.length_cons, List.length_nil, brows_len, LIM] <;> omega) | fail) only [zz0, zz1, zb, zi, zs, zl, bytesRow_eq, brows_app', brows_len, List.length_append, List.length_cons, List.length_nil, LIM, if_true, if_false, zf, zr, Out.andThen_norm, Out.andThenB_ret, Out.andThenB_norm, Out.andThenB_ex, if_pos, Int.toNat_natCast, zm, true_and, and_self, decide_true, bs, E_spec_l13NamesL1, map_getD hi, S1, d, c2, c0, wi]
      all_goals simp
    · have c0 : decide ((i : Int) > 0) = true := decide_eq_true (by omega)
      rw [if_neg h0] at hc ⊢
      simp only [List.length_append, List.length_cons, List.length_nil, id] at hc
      simp (disch := first | omega | (simp only [List.length_append, List.length_cons, List.length_nil, brows_len, LIM] <;> omega) | fail) only [zz0, zz1, zb, zi, zs, zl, bytesRow_eq, brows_app', brows_len, List.length_append, List.length_cons, List.length_nil, LIM, if_true, if_false, zf, zr, Out.andThen_norm, Out.andThenB_ret, Out.andThenB_norm, Out.andThenB_ex, if_pos, Int.toNat_natCast, zm, true_and, and_self, decide_true, bs, E_spec_l13NamesL1, map_getD hi, S1, d, c2, c0, wi]
      all_goals simp
  rw [Int.natCast_zero] at hlp
  rw [eq_spec_l13Names]
  simp only [E_spec_l13Names, zz0, zz1, zb, zi, zs, zl]
  exact andB_ex hlp rfl
theorem spec_lp1 (v : TDef) (hw : wtL v.enc ≤ 1048576) (hg : dfOk v = true) (out ls : List UInt8) (hl : ls.length ≤ 200000000) :
    Loop E_spec_DefTextL1 [.sl (brows out), .sl (brows ls), .i 0, .i v.kind, .b v.ext, .s v.desc, .s v.name, .sl (v.faces.map S1), .sl (v.fields.map TFieldDef.enc), .sl (v.inputs.map TInDef.enc), .sl (v.values.map TEnumDef.enc), .sl (v.roots.map TRoot.enc), .b v.repeat', .sl (v.dirs.map TDir.enc)] = .ex 1 [.sl (brows out), .sl (brows (ls ++ jt [] [] fieldT v.fields)), .i v.kind, .b v.ext, .s v.desc, .s v.name, .sl (v.faces.map S1), .sl (v.fields.map TFieldDef.enc), .sl (v.inputs.map TInDef.enc), .sl (v.values.map TEnumDef.enc), .sl (v.roots.map TRoot.enc), .b v.repeat', .sl (v.dirs.map TDir.enc)] := by
  obtain ⟨g0, g1, g2, g3, g4⟩ := def_facts hg
  have hwd := def_wt v
  obtain ⟨hfl, hfx⟩ := sl_wt (l := v.fields) (enc := TFieldDef.enc) (n := 1048576) (by omega)
  have hb := flat_len (enc := TFieldDef.enc) (f := fieldT) (a := 40) v.fields fun x hx => fieldT_len x (g1 x hx)
  have hlp := jt_loop (o := []) (sep := []) (f := fieldT) (l := v.fields) (st := fun i cur => [.sl (brows out), .sl (brows cur), .i (i : Int), .i v.kind, .b v.ext, .s v.desc, .s v.name, .sl (v.faces.map S1), .sl (v.fields.map TFieldDef.enc), .sl (v.inputs.map TInDef.enc), .sl (v.values.map TEnumDef.enc), .sl (v.roots.map TRoot.enc), .b v.repeat', .sl (v.dirs.map TDir.enc)]) (F := E_spec_DefTextL1) (res := .ex 1 [.sl (brows out), .sl (brows (ls ++ jt [] [] fieldT v.fields)), .i v.kind, .b v.ext, .s v.desc, .s v.name, .sl (v.faces.map S1), .sl (v.fields.map TFieldDef.enc), .sl (v.inputs.map TInDef.enc), .sl (v.values.map TEnumDef.enc), .sl (v.roots.map TRoot.enc), .b v.repeat', .sl (v.dirs.map TDir.enc)]) ls
    (fun i hi cur hc => ?step) ?fin (Out.esc_ex _ _)
  case fin => simp [E_spec_DefTextL1]
  case step =>
    have hm := List.getElem_mem hi
    have hwx := hfx _ hm
    have c2 : 0 ≤ (i : Int) ∧ (i : Int) < (v.fields.length : Int) := by omega
    have d : decide ((i : Int) < (v.fields.length : Int)) = true := decide_eq_true (by omega)
    have wi := wrap_succ hi (show v.fields.length ≤ 9223372036854775807 by omega)
    simp only [ite_self, List.nil_append] at hc ⊢
    have hv := spec_l13SayField v.fields[i] hwx (g1 _ hm) cur (by omega)
    simp (disch := first | omega | (simp only [List.length_append, List.length_cons, List.length_nil, brows_len, LIM] <;> omega) | fail) only [zz0, zz1, zb, zi, zs, zl, bytesRow_eq, brows_app', brows_len, List.length_append, List.length_cons, List.length_nil, LIM, if_true, if_false, zf, zr, Out.andThen_norm, Out.andThenB_ret, Out.andThenB_norm, Out.andThenB_ex, if_pos, Int.toNat_natCast, zm, true_and, and_self, decide_true, bs, E_spec_DefTextL1, map_getD hi, TFieldDef.enc_eq, d, c2, hv, wi]
  rw [Int.natCast_zero] at hlp
  exact hlp
theorem spec_lp2 (v : TDef) (hw : wtL v.enc ≤ 1048576) (hg : dfOk v = true) (out ls : List UInt8) (hl : ls.length ≤ 200000000) :
    Loop E_spec_DefTextL2 [.sl (brows out), .sl (brows ls), .i 0, .i v.kind, .b v.ext, .s v.desc, .s v.name, .sl (v.faces.map S1), .sl (v.fields.map TFieldDef.enc), .sl (v.inputs.map TInDef.enc), .sl (v.values.map TEnumDef.enc), .sl (v.roots.map TRoot.enc), .b v.repeat', .sl (v.dirs.map TDir.enc)] = .ex 3 [.sl (brows out), .sl (brows (ls ++ jt [] [] enumT v.values)), .i v.kind, .b v.ext, .s v.desc, .s v.name, .sl (v.faces.map S1), .sl (v.fields.map TFieldDef.enc), .sl (v.inputs.map TInDef.enc), .sl (v.values.map TEnumDef.enc), .sl (v.roots.map TRoot.enc), .b v.repeat', .sl (v.dirs.map TDir.enc)] := by
  obtain ⟨g0, g1, g2, g3, g4⟩ := def_facts hg
  have hwd := def_wt v
  obtain ⟨hfl, hfx⟩ := sl_wt (l := v.values) (enc := TEnumDef.enc) (n := 1048576) (by omega)
  have hb := flat_len (enc := TEnumDef.enc) (f := enumT) (a := 40) v.values fun x _ => enumT_len x
  have hlp := jt_loop (o := []) (sep := []) (f := enumT) (l := v.values) (st := fun i cur => [.sl (brows out), .sl (brows cur), .i (i : Int), .i v.kind, .b v.ext, .s v.desc, .s v.name, .sl (v.faces.map S1), .sl (v.fields.map TFieldDef.enc), .sl (v.inputs.map TInDef.enc), .sl (v.values.map TEnumDef.enc), .sl (v.roots.map TRoot.enc), .b v.repeat', .sl (v.dirs.map TDir.enc)]) (F := E_spec_DefTextL2) (res := .ex 3 [.sl (brows out), .sl (brows (ls ++ jt [] [] enumT v.values)), .i v.kind, .b v.ext, .s v.desc, .s v.name, .sl (v.faces.map S1), .sl (v.fields.map TFieldDef.enc), .sl (v.inputs.map TInDef.enc), .sl (v.values.map TEnumDef.enc), .sl (v.roots.map TRoot.enc), .b v.repeat', .sl (v.dirs.map TDir.enc)]) ls
    (fun i hi cur hc => ?step) ?fin (Out.esc_ex _ _)
  case fin => simp [E_spec_DefTextL2]
  case step =>
    have hm := List.getElem_mem hi
    have hwx := hfx _ hm
    have c2 : 0 ≤ (i : Int) ∧ (i : Int) < (v.values.length : Int) := by omega
    have d : decide ((i : Int) < (v.values.length : Int)) = true := decide_eq_true (by omega)
    have wi := wrap_succ hi (show v.values.length ≤ 9223372036854775807 by omega)
    simp only [ite_self, List.nil_append] at hc ⊢
    have hwx2 := hwx
    rw [enum_wt] at hwx2
    have l1 := desc_len v.values[i].desc
    have l2 := dirs_len v.values[i].dirs
    have hv := spec_l13SayDesc v.values[i].desc (by omega) cur (by omega)
    have hd := spec_l10SayDirs v.values[i].dirs (by omega) (g3 _ hm)
    rw [enumT] at hc
    simp only [List.length_append, List.length_cons, List.length_nil] at hc
    simp (disch := first | omega | (simp only [List.length_append, List.length_cons, List.length_nil, brows_len, LIM] <;> omega) | fail) only [zz0, zz1, zb, zi, zs, zl, bytesRow_eq, brows_app', brows_len, List.length_append, List.length_cons, List.length_nil, LIM, if_true, if_false, zf, zr, Out.andThen_norm, Out.andThenB_ret, Out.andThenB_norm, Out.andThenB_ex, if_pos, Int.toNat_natCast, zm, true_and, and_self, decide_true, bs, E_spec_DefTextL2, map_getD hi, TEnumDef.enc_eq, d, c2, hv, hd, wi]
    simp [enumT]
  rw [Int.natCast_zero] at hlp
  exact hlp
theorem spec_lp3 (v : TDef) (hw : wtL v.enc ≤ 1048576) (hg : dfOk v = true) (out ls : List UInt8) (hl : ls.length ≤ 200000000) :
    Loop E_spec_DefTextL3 [.sl (brows out), .sl (brows ls), .i 0, .i v.kind, .b v.ext, .s v.desc, .s v.name, .sl (v.faces.map S1), .sl (v.fields.map TFieldDef.enc), .sl (v.inputs.map TInDef.enc), .sl (v.values.map TEnumDef.enc), .sl (v.roots.map TRoot.enc), .b v.repeat', .sl (v.dirs.map TDir.enc)] = .ex 5 [.sl (brows out), .sl (brows (ls ++ jt [] [] rootT v.roots)), .i v.kind, .b v.ext, .s v.desc, .s v.name, .sl (v.faces.map S1), .sl (v.fields.map TFieldDef.enc), .sl (v.inputs.map TInDef.enc), .sl (v.values.map TEnumDef.enc), .sl (v.roots.map TRoot.enc), .b v.repeat', .sl (v.dirs.map TDir.enc)] := by
  obtain ⟨g0, g1, g2, g3, g4⟩ := def_facts hg
  have hwd := def_wt v
  obtain ⟨hfl, hfx⟩ := sl_wt (l := v.roots) (enc := TRoot.enc) (n := 1048576) (by omega)
  have hb := flat_len (enc := TRoot.enc) (f := rootT) (a := 40) v.roots fun x _ => rootT_len x
  have hlp := jt_loop (o := []) (sep := []) (f := rootT) (l := v.roots) (st := fun i cur => [.sl (brows out), .sl (brows cur), .i (i : Int), .i v.kind, .b v.ext, .s v.desc, .s v.name, .sl (v.faces.map S1), .sl (v.fields.map TFieldDef.enc), .sl (v.inputs.map TInDef.enc), .sl (v.values.map TEnumDef.enc), .sl (v.roots.map TRoot.enc), .b v.repeat', .sl (v.dirs.map TDir.enc)]) (F := E_spec_DefTextL3) (res := .ex 5 [.sl (brows out), .sl (brows (ls ++ jt [] [] rootT v.roots)), .i v.kind, .b v.ext, .s v.desc, .s v.name, .sl (v.faces.map S1), .sl (v.fields.map TFieldDef.enc), .sl (v.inputs.map TInDef.enc), .sl (v.values.map TEnumDef.enc), .sl (v.roots.map TRoot.enc), .b v.repeat', .sl (v.dirs.map TDir.enc)]) ls
    (fun i hi cur hc => ?step) ?fin (Out.esc_ex _ _)
  case fin => simp [E_spec_DefTextL3]
  case step =>
    have hm := List.getElem_mem hi
    have hwx := hfx _ hm
    have c2 : 0 ≤ (i : Int) ∧ (i : Int) < (v.roots.length : Int) := by omega
    have d : decide ((i : Int) < (v.roots.length : Int)) = true := decide_eq_true (by omega)
    have wi := wrap_succ hi (show v.roots.length ≤ 9223372036854775807 by omega)
    simp only [ite_self, List.nil_append] at hc ⊢
    have l1 := wordD_len v.roots[i].kind
    have hv := wordD_spec v.roots[i].kind
    rw [rootT] at hc
    simp only [List.length_append, List.length_cons, List.length_nil] at hc
    simp (disch := first | omega | (simp only [List.length_append, List.length_cons, List.length_nil, brows_len, LIM] <;> omega) | fail) only [zz0, zz1, zb, zi, zs, zl, bytesRow_eq, brows_app', brows_len, List.length_append, List.length_cons, List.length_nil, LIM, if_true, if_false, zf, zr, Out.andThen_norm, Out.andThenB_ret, Out.andThenB_norm, Out.andThenB_ex, if_pos, Int.toNat_natCast, zm, true_and, and_self, decide_true, bs, E_spec_DefTextL3, map_getD hi, TRoot.enc_eq, d, c2, hv, wi]
    simp [rootT]
  rw [Int.natCast_zero] at hlp
  exact hlp
theorem spec_lp4 (v : TDef) (hw : wtL v.enc ≤ 1048576) (hg : dfOk v = true) (out ls : List UInt8) (hl : ls.length ≤ 200000000) :
    Loop E_spec_DefTextL4 [.sl (brows out), .sl (brows ls), .i 0, .i v.kind, .b v.ext, .s v.desc, .s v.name, .sl (v.faces.map S1), .sl (v.fields.map TFieldDef.enc), .sl (v.inputs.map TInDef.enc), .sl (v.values.map TEnumDef.enc), .sl (v.roots.map TRoot.enc), .b v.repeat', .sl (v.dirs.map TDir.enc)] = .ex 7 [.sl (brows out), .sl (brows (ls ++ (if v.kind = 6 then jt [] [] inlT v.inputs else [])))] := by
  obtain ⟨g0, g1, g2, g3, g4⟩ := def_facts hg
  have hwd := def_wt v
  obtain ⟨hfl, hfx⟩ := sl_wt (l := v.inputs) (enc := TInDef.enc) (n := 1048576) (by omega)
  by_cases k6 : v.kind = 6
  · have c6 : (v.kind == 6) = true := beq_iff_eq.2 k6
    rw [if_pos k6]
    have hb := flat_len (enc := TInDef.enc) (f := inlT) (a := 40) v.inputs fun x hx => inlT_len x (ins_each g2 x hx)
    have hlp := jt_loop (o := []) (sep := []) (f := inlT) (l := v.inputs) (st := fun i cur => [.sl (brows out), .sl (brows cur), .i (i : Int), .i v.kind, .b v.ext, .s v.desc, .s v.name, .sl (v.faces.map S1), .sl (v.fields.map TFieldDef.enc), .sl (v.inputs.map TInDef.enc), .sl (v.values.map TEnumDef.enc), .sl (v.roots.map TRoot.enc), .b v.repeat', .sl (v.dirs.map TDir.enc)]) (F := E_spec_DefTextL4) (res := .ex 7 [.sl (brows out), .sl (brows (ls ++ jt [] [] inlT v.inputs))]) ls
      (fun i hi cur hc => ?step) ?fin (Out.esc_ex _ _)
    case fin => simp [E_spec_DefTextL4]
    case step =>
      have hm := List.getElem_mem hi
      have hwx := hfx _ hm
      have c2 : 0 ≤ (i : Int) ∧ (i : Int) < (v.inputs.length : Int) := by omega
      have d : decide ((i : Int) < (v.inputs.length : Int)) = true := decide_eq_true (by omega)
      have wi := wrap_succ hi (show v.inputs.length ≤ 9223372036854775807 by omega)
      have hv := spec_l13SayIn v.inputs[i] hwx (ins_each g2 _ hm)
      simp only [ite_self, List.nil_append] at hc ⊢
      rw [inlT] at hc
      simp only [List.length_append, List.length_cons, List.length_nil] at hc
      simp (disch := first | omega | (simp only [List.length_append, List.length_cons, List.length_nil, brows_len, LIM] <;> omega) | fail) only [zz0, zz1, zb, zi, zs, zl, bytesRow_eq, brows_app', brows_len, List.length_append, List.length_cons, List.length_nil, LIM, if_true, if_false, zf, zr, Out.andThen_norm, Out.andThenB_ret, Out.andThenB_norm, Out.andThenB_ex, if_pos, Int.toNat_natCast, zm, true_and, and_self, decide_true, bs, E_spec_DefTextL4, map_getD hi, TInDef.enc_eq, d, c2, c6, hv, wi]
      simp [inlT]
    rw [Int.natCast_zero] at hlp
    exact hlp
  · have c6 : (v.kind == 6) = false := beq_eq_false_iff_ne.2 k6
    rw [if_neg k6, List.append_nil]
    refine Loop_esc ?_ (Out.esc_ex _ _)
    by_cases hd : (0 : Int) < (v.inputs.length : Int)
    · simp [E_spec_DefTextL4, c6, hd]
    · simp [E_spec_DefTextL4, c6, hd]
theorem ne_nil {α : Type} {l : List α} (h : ne l = true) : l ≠ [] := by
  rintro rfl
  exact absurd h (by simp [ne])
theorem nil_ne {α : Type} {l : List α} (h : ne l = false) : l = [] := by
  cases l with
  | nil => rfl
  | cons a l => exact absurd h (by simp [ne])
theorem tail_ne (v : TDef) : decide (((brows (linesT v)).length : Int) > 0) = !(linesT v == []) := by
  rw [brows_len]
  cases linesT v with
  | nil => rfl
  | cons a l => simp
set_option maxHeartbeats 8000000 in
theorem spec_DefText (v : TDef) (hw : wtL v.enc ≤ 1048576) : r_spec_DefText [.i v.kind, .b v.ext, .s v.desc, .s v.name, .sl (v.faces.map S1), .sl (v.fields.map TFieldDef.enc), .sl (v.inputs.map TInDef.enc), .sl (v.values.map TEnumDef.enc), .sl (v.roots.map TRoot.enc), .b v.repeat', .sl (v.dirs.map TDir.enc)] = .ret [.s (defText v)] := by
  have hk := spec_DefOk v hw
  rw [eq_spec_DefText]
  unfold defText
  cases hg : dfOk v with
  | false => rw [hg] at hk; simp only [E_spec_DefText, zz0, zz1, zb, zi, zs, zl, hk, zr, Bool.not_false, if_true, zf, if_false]
  | true =>
    rw [hg] at hk
    obtain ⟨g0, g1, g2, g3, g4⟩ := def_facts hg
    obtain ⟨m1, m2, m3, mh, m4, mf, mu, md, mi, mj, mn⟩ := d7_len hg
    have ml := lines_len hg
    have hwd := def_wt v
    have hEs := spec_Escaped v.desc (by omega)
    have hEl := escaped_len v.desc
    have hW := spec_word v.kind g0
    have hI := spec_l13SayIns v.inputs (by omega) g2
    have hD := spec_l10SayDirs v.dirs (by omega) g4
    have hfa : v.faces.length ≤ 1048576 := (def_lens v hw).1
    have hN := fun sep out => spec_names v.faces sep out hfa
    have mj1 := mj [32, 124, 32] rfl
    have mj2 := mj [32, 38, 32] rfl
    have lk := kwT_len v.kind
    simp only [E_spec_DefText, zz0, zz1, zb, zi, zs, zl, hk, zr, Bool.not_true, zf, if_false, if_true]
    refine and_st (x := [.sl (brows (d1 v)), .i v.kind, .b v.ext, .s v.desc, .s v.name, .sl (v.faces.map S1), .sl (v.fields.map TFieldDef.enc), .sl (v.inputs.map TInDef.enc), .sl (v.values.map TEnumDef.enc), .sl (v.roots.map TRoot.enc), .b v.repeat', .sl (v.dirs.map TDir.enc)]) (?_ : _ = _) ?_
    · by_cases k : v.desc = []
      · have c : (v.desc == ([] : List UInt8)) = true := beq_iff_eq.2 k
        simp [d1, desc0, c, k, brows]
      · have c : (v.desc == ([] : List UInt8)) = false := beq_eq_false_iff_ne.2 k
        unfold d1 desc0
        rw [if_neg k]
        simp (disch := first | omega | (simp only [List.length_append, List.length_cons, List.length_nil, brows_len, LIM] <;> omega) | fail) only [zz0, zz1, zb, zi, zs, zl, bytesRow_eq, brows_app', brows_len, List.length_append, List.length_cons, List.length_nil, LIM, if_true, if_false, zf, zr, Out.andThen_norm, Out.andThenB_ret, Out.andThenB_norm, Out.andThenB_ex, if_pos, Int.toNat_natCast, zm, true_and, and_self, decide_true, bs, c, hEs, Bool.not_false, List.nil_append]
    simp only [zz0, zz1, zb, zi, zs, zl, zr]
    refine and_st (x := [.sl (brows (d2 v)), .i v.kind, .b v.ext, .s v.desc, .s v.name, .sl (v.faces.map S1), .sl (v.fields.map TFieldDef.enc), .sl (v.inputs.map TInDef.enc), .sl (v.values.map TEnumDef.enc), .sl (v.roots.map TRoot.enc), .b v.repeat', .sl (v.dirs.map TDir.enc)]) (?_ : _ = _) ?_
    · unfold d2
      cases hx : v.ext with
      | false => simp
      | true =>
        simp (disch := first | omega | (simp only [List.length_append, List.length_cons, List.length_nil, brows_len, LIM] <;> omega) | fail) only [zz0, zz1, zb, zi, zs, zl, bytesRow_eq, brows_app', brows_len, List.length_append, List.length_cons, List.length_nil, LIM, if_true, if_false, zf, zr, Out.andThen_norm, Out.andThenB_ret, Out.andThenB_norm, Out.andThenB_ex, if_pos, Int.toNat_natCast, zm, true_and, and_self, decide_true, bs, hx]
        all_goals simp
    simp only [zz0, zz1, zb, zi, zs, zl, zr]
    refine bind_st hW ?_
    simp only [zz0, zz1, zb, zi, zs, zl]
    rw [if_pos (by rw [brows_len, bytesRow_eq, brows_len]; simp only [LIM]; omega)]
    rw [bytesRow_eq, brows_app', show d2 v ++ kwT v.kind = d3 v from rfl]
    refine andB_nm (x := [.sl (brows (d4 v)), .i v.kind, .b v.ext, .s v.desc, .s v.name, .sl (v.faces.map S1), .sl (v.fields.map TFieldDef.enc), .sl (v.inputs.map TInDef.enc), .sl (v.values.map TEnumDef.enc), .sl (v.roots.map TRoot.enc), .b v.repeat', .sl (v.dirs.map TDir.enc)]) ?_ ?_
    · refine and_st (x := [.sl (brows (d4 v)), .i v.kind, .b v.ext, .s v.desc, .s v.name, .sl (v.faces.map S1), .sl (v.fields.map TFieldDef.enc), .sl (v.inputs.map TInDef.enc), .sl (v.values.map TEnumDef.enc), .sl (v.roots.map TRoot.enc), .b v.repeat', .sl (v.dirs.map TDir.enc)]) ?_ rfl
      unfold d4 headDT
      by_cases k8 : v.kind = 8
      · have c8 : (v.kind == 8) = true := beq_iff_eq.2 k8
        rw [if_pos c8, if_pos k8, List.append_nil]
      · have c8 : (v.kind == 8) = false := beq_eq_false_iff_ne.2 k8
        rw [c8, if_neg (by simp), if_neg k8]
        refine and_st (x := [.sl (brows (d4 v)), .i v.kind, .b v.ext, .s v.desc, .s v.name, .sl (v.faces.map S1), .sl (v.fields.map TFieldDef.enc), .sl (v.inputs.map TInDef.enc), .sl (v.values.map TEnumDef.enc), .sl (v.roots.map TRoot.enc), .b v.repeat', .sl (v.dirs.map TDir.enc)]) ?_ ?_
        · unfold d4 headDT
          rw [if_neg k8]
          by_cases k7 : v.kind = 7
          · have c7 : (v.kind == 7) = true := beq_iff_eq.2 k7
            rw [if_pos c7, if_pos k7]
            cases hr : v.repeat' with
            | true =>
              simp (disch := first | omega | (simp only [List.length_append, List.length_cons, List.length_nil, brows_len, LIM] <;> omega) | fail) only [zz0, zz1, zb, zi, zs, zl, bytesRow_eq, brows_app', brows_len, List.length_append, List.length_cons, List.length_nil, LIM, if_true, if_false, zf, zr, Out.andThen_norm, Out.andThenB_ret, Out.andThenB_norm, Out.andThenB_ex, if_pos, Int.toNat_natCast, zm, true_and, and_self, decide_true, bs, hr, hI, hN]
              all_goals simp
            | false =>
              simp (disch := first | omega | (simp only [List.length_append, List.length_cons, List.length_nil, brows_len, LIM] <;> omega) | fail) only [zz0, zz1, zb, zi, zs, zl, bytesRow_eq, brows_app', brows_len, List.length_append, List.length_cons, List.length_nil, LIM, if_true, if_false, zf, zr, Out.andThen_norm, Out.andThenB_ret, Out.andThenB_norm, Out.andThenB_ex, if_pos, Int.toNat_natCast, zm, true_and, and_self, decide_true, bs, hr, hI, hN]
              all_goals simp
          · have c7 : (v.kind == 7) = false := beq_eq_false_iff_ne.2 k7
            rw [c7, if_neg (by simp), if_neg k7]
            simp (disch := first | omega | (simp only [List.length_append, List.length_cons, List.length_nil, brows_len, LIM] <;> omega) | fail) only [zz0, zz1, zb, zi, zs, zl, bytesRow_eq, brows_app', brows_len, List.length_append, List.length_cons, List.length_nil, LIM, if_true, if_false, zf, zr, Out.andThen_norm, Out.andThenB_ret, Out.andThenB_norm, Out.andThenB_ex, if_pos, Int.toNat_natCast, zm, true_and, and_self, decide_true, bs, zr]
            all_goals simp
        · unfold d4 headDT
          rw [if_neg k8]
          rfl
    simp only [zz0, zz1, zb, zi, zs, zl, zr]
    refine and_st (x := [.sl (brows (d4 v)), .b ((v.kind == 2 || v.kind == 3) && ne v.faces), .i v.kind, .b v.ext, .s v.desc, .s v.name, .sl (v.faces.map S1), .sl (v.fields.map TFieldDef.enc), .sl (v.inputs.map TInDef.enc), .sl (v.values.map TEnumDef.enc), .sl (v.roots.map TRoot.enc), .b v.repeat', .sl (v.dirs.map TDir.enc)]) ?_ ?_
    · rw [len_pos]
      cases (v.kind == 2) <;> cases (v.kind == 3) <;> cases ne v.faces <;> simp
    simp only [zz0, zz1, zb, zi, zs, zl]
    refine and_st (x := [.sl (brows (d5 v)), .i v.kind, .b v.ext, .s v.desc, .s v.name, .sl (v.faces.map S1), .sl (v.fields.map TFieldDef.enc), .sl (v.inputs.map TInDef.enc), .sl (v.values.map TEnumDef.enc), .sl (v.roots.map TRoot.enc), .b v.repeat', .sl (v.dirs.map TDir.enc)]) ?_ ?_
    · unfold d5 facesT
      cases hf : ne v.faces with
      | false =>
        rw [nil_ne hf]
        all_goals simp
      | true =>
        have hne := ne_nil hf
        by_cases hk2 : v.kind = 2 ∨ v.kind = 3
        · have hc : (v.kind == 2 || v.kind == 3) = true := by simpa using hk2
          rw [if_pos (c := (v.kind = 2 ∨ v.kind = 3) ∧ v.faces ≠ []) ⟨hk2, hne⟩, hc]
          simp (disch := first | omega | (simp only [List.length_append, List.length_cons, List.length_nil, brows_len, LIM] <;> omega) | fail) only [zz0, zz1, zb, zi, zs, zl, bytesRow_eq, brows_app', brows_len, List.length_append, List.length_cons, List.length_nil, LIM, if_true, if_false, zf, zr, Out.andThen_norm, Out.andThenB_ret, Out.andThenB_norm, Out.andThenB_ex, if_pos, Int.toNat_natCast, zm, true_and, and_self, decide_true, bs, hN, Bool.true_and, Bool.and_true, Bool.and_self]
          all_goals simp
        · have hc : (v.kind == 2 || v.kind == 3) = false := by simpa using hk2
          rw [if_neg (c := (v.kind = 2 ∨ v.kind = 3) ∧ v.faces ≠ []) (fun h => hk2 h.1), hc]
          all_goals simp
    simp only [zz0, zz1, zb, zi, zs, zl]
    refine bind_st (hD (d5 v) (by unfold d5; rw [List.length_append]; omega)) ?_
    simp only [zz0, zz1, zb, zi, zs, zl]
    rw [show d5 v ++ dirsT v.dirs = d6 v from rfl]
    refine and_st (x := [.sl (brows (d6 v)), .b ((v.kind == 4) && ne v.faces), .i v.kind, .b v.ext, .s v.desc, .s v.name, .sl (v.faces.map S1), .sl (v.fields.map TFieldDef.enc), .sl (v.inputs.map TInDef.enc), .sl (v.values.map TEnumDef.enc), .sl (v.roots.map TRoot.enc), .b v.repeat', .sl (v.dirs.map TDir.enc)]) ?_ ?_
    · rw [len_pos]
      cases (v.kind == 4) <;> cases ne v.faces <;> simp
    simp only [zz0, zz1, zb, zi, zs, zl]
    have m6 : (d6 v).length ≤ 80 * wtL v.enc + 200 := by unfold d6 d5; simp only [List.length_append]; omega
    refine and_st (x := [.sl (brows (d7 v)), .i v.kind, .b v.ext, .s v.desc, .s v.name, .sl (v.faces.map S1), .sl (v.fields.map TFieldDef.enc), .sl (v.inputs.map TInDef.enc), .sl (v.values.map TEnumDef.enc), .sl (v.roots.map TRoot.enc), .b v.repeat', .sl (v.dirs.map TDir.enc)]) ?_ ?_
    · unfold d7 unionT
      cases hf : ne v.faces with
      | false =>
        rw [nil_ne hf]
        all_goals simp
      | true =>
        have hne := ne_nil hf
        by_cases hk2 : v.kind = 4
        · have hc : (v.kind == 4) = true := by simpa using hk2
          rw [if_pos (c := (v.kind = 4) ∧ v.faces ≠ []) ⟨hk2, hne⟩, hc]
          simp (disch := first | omega | (simp only [List.length_append, List.length_cons, List.length_nil, brows_len, LIM] <;> omega) | fail) only [zz0, zz1, zb, zi, zs, zl, bytesRow_eq, brows_app', brows_len, List.length_append, List.length_cons, List.length_nil, LIM, if_true, if_false, zf, zr, Out.andThen_norm, Out.andThenB_ret, Out.andThenB_norm, Out.andThenB_ex, if_pos, Int.toNat_natCast, zm, true_and, and_self, decide_true, bs, hN, Bool.true_and, Bool.and_true, Bool.and_self]
          all_goals simp
        · have hc : (v.kind == 4) = false := by simpa using hk2
          rw [if_neg (c := (v.kind = 4) ∧ v.faces ≠ []) (fun h => hk2 h.1), hc]
          all_goals simp
    simp only [zz0, zz1, zb, zi, zs, zl]
    refine andB_ex (spec_lp1 v hw hg (d7 v) [] (by simp only [List.length_nil]; omega)) ?_
    simp only [zz0, zz1, zb, zi, zs, zl]
    rw [List.nil_append]
    refine andB_ex (spec_lp2 v hw hg (d7 v) (lines1 v) (by have : (linesT v).length = (lines1 v).length + (jt [] [] enumT v.values).length + (jt [] [] rootT v.roots).length + (if v.kind = 6 then jt [] [] inlT v.inputs else []).length := by simp only [linesT, lines3, lines2, List.length_append]
                                                           omega)) ?_
    simp only [zz0, zz1, zb, zi, zs, zl]
    refine andB_ex (spec_lp3 v hw hg (d7 v) (lines2 v) (by have : (linesT v).length = (lines2 v).length + (jt [] [] rootT v.roots).length + (if v.kind = 6 then jt [] [] inlT v.inputs else []).length := by simp only [linesT, lines3, List.length_append]
                                                           omega)) ?_
    simp only [zz0, zz1, zb, zi, zs, zl]
    refine andB_ex (spec_lp4 v hw hg (d7 v) (lines3 v) (by have : (linesT v).length = (lines3 v).length + (if v.kind = 6 then jt [] [] inlT v.inputs else []).length := by simp only [linesT, List.length_append]
                                                           omega)) ?_
    simp only [zz0, zz1, zb, zi, zs, zl]
    rw [show lines3 v ++ (if v.kind = 6 then jt [] [] inlT v.inputs else []) = linesT v from rfl, tail_ne]
    have m7 : (d7 v).length ≤ 90 * wtL v.enc + 300 := by unfold d7; rw [List.length_append]; omega
    refine and_st (x := [.sl (brows (d8 v))]) ?_ ?_
    · unfold d8
      by_cases k : linesT v = []
      · have c : (linesT v == []) = true := beq_iff_eq.2 k
        rw [if_pos k, c]
        all_goals simp
      · have c : (linesT v == []) = false := beq_eq_false_iff_ne.2 k
        rw [if_neg k, c]
        simp (disch := first | omega | (simp only [List.length_append, List.length_cons, List.length_nil, brows_len, LIM] <;> omega) | fail) only [zz0, zz1, zb, zi, zs, zl, bytesRow_eq, brows_app', brows_len, List.length_append, List.length_cons, List.length_nil, LIM, if_true, if_false, zf, zr, Out.andThen_norm, Out.andThenB_ret, Out.andThenB_norm, Out.andThenB_ex, if_pos, Int.toNat_natCast, zm, true_and, and_self, decide_true, bs, Bool.not_false]
        all_goals simp
    have m8 : (d8 v).length ≤ 150 * wtL v.enc + 400 := by
      unfold d8
      rw [List.length_append]
      split <;> simp only [List.length_append, List.length_cons, List.length_nil] <;> omega
    simp (disch := first | omega | (simp only [List.length_append, List.length_cons, List.length_nil, brows_len, LIM] <;> omega) | fail) only [zz0, zz1, zb, zi, zs, zl, bytesRow_eq, brows_app', brows_len, List.length_append, List.length_cons, List.length_nil, LIM, if_true, if_false, zf, zr, Out.andThen_norm, Out.andThenB_ret, Out.andThenB_norm, Out.andThenB_ex, if_pos, Int.toNat_natCast, zm, true_and, and_self, decide_true, bs, rowBytes_rows]
    rfl
theorem impl_desc0 (s : List UInt8) (hs : s.length ≤ 1048576) : r_impl_descLine [.s [], .s s] = .ret [.s (desc0 s)] := by
  have hE := impl_Escaped s hs
  have hl := escaped_len s
  rw [eq_impl_descLine]
  unfold desc0
  by_cases k : s = []
  · have c : (s == ([] : List UInt8)) = true := beq_iff_eq.2 k
    rw [if_pos k]
    simp only [E_impl_descLine, zz0, zz1, zb, zi, zs, zl, c, if_true]
  · have c : (s == ([] : List UInt8)) = false := beq_eq_false_iff_ne.2 k
    rw [if_neg k]
    simp (disch := first | omega | (simp only [List.length_append, List.length_cons, List.length_nil, brows_len, LIM] <;> omega) | fail) only [zz0, zz1, zb, zi, zs, zl, bytesRow_eq, brows_app', brows_len, List.length_append, List.length_cons, List.length_nil, LIM, if_true, if_false, zf, zr, Out.andThen_norm, Out.andThenB_ret, Out.andThenB_norm, Out.andThenB_ex, if_pos, Int.toNat_natCast, zm, true_and, and_self, decide_true, bs, E_impl_descLine, c, hE, List.nil_append]
theorem Join_gen (ws : List (List UInt8)) (sep : List UInt8) (h : ws.length ≤ 1048576) (h2 : (Lib.join ws sep).length ≤ 1073741824) : r_strings_Join [.sl (ws.map S1), .s sep] = .ret [.s (Lib.join ws sep)] := by
  rw [eq_strings_Join]
  have : E_strings_Join [.sl (ws.map fun x => [DC.s x]), .s sep] = (match (match qJoin (ws.map fun x => [DC.s x]) sep with | some r => some [DC.s r] | none => none) with | some r => Out.ret r | none => .fail) := rfl
  exact this.trans (by rw [join_words ws _ (by omega) (by omega)])
theorem impl_lp1 (v : TDef) (hw : wtL v.enc ≤ 1048576) (hg : dfOk v = true) (ls : List UInt8) (hl : ls.length ≤ 200000000) :
    Loop E_impl_blockLinesL1 [.s ls, .sl (v.fields.map TFieldDef.enc), .i (v.fields.length : Int), .i 0, .i v.kind, .b v.ext, .s v.desc, .s v.name, .sl (v.faces.map S1), .sl (v.fields.map TFieldDef.enc), .sl (v.inputs.map TInDef.enc), .sl (v.values.map TEnumDef.enc), .sl (v.roots.map TRoot.enc), .b v.repeat', .sl (v.dirs.map TDir.enc)] = .ex 0 [.s (ls ++ jt [] [] fieldT v.fields), .i v.kind, .b v.ext, .s v.desc, .s v.name, .sl (v.faces.map S1), .sl (v.fields.map TFieldDef.enc), .sl (v.inputs.map TInDef.enc), .sl (v.values.map TEnumDef.enc), .sl (v.roots.map TRoot.enc), .b v.repeat', .sl (v.dirs.map TDir.enc)] := by
  obtain ⟨g0, g1, g2, g3, g4⟩ := def_facts hg
  have hwd := def_wt v
  obtain ⟨hfl, hfx⟩ := sl_wt (l := v.fields) (enc := TFieldDef.enc) (n := 1048576) (by omega)
  have hb := flat_len (enc := TFieldDef.enc) (f := fieldT) (a := 40) v.fields fun x hx => fieldT_len x (g1 x hx)
  have hlp := jt_loop (o := []) (sep := []) (f := fieldT) (l := v.fields) (st := fun i cur => [.s cur, .sl (v.fields.map TFieldDef.enc), .i (v.fields.length : Int), .i (i : Int), .i v.kind, .b v.ext, .s v.desc, .s v.name, .sl (v.faces.map S1), .sl (v.fields.map TFieldDef.enc), .sl (v.inputs.map TInDef.enc), .sl (v.values.map TEnumDef.enc), .sl (v.roots.map TRoot.enc), .b v.repeat', .sl (v.dirs.map TDir.enc)]) (F := E_impl_blockLinesL1) (res := .ex 0 [.s (ls ++ jt [] [] fieldT v.fields), .i v.kind, .b v.ext, .s v.desc, .s v.name, .sl (v.faces.map S1), .sl (v.fields.map TFieldDef.enc), .sl (v.inputs.map TInDef.enc), .sl (v.values.map TEnumDef.enc), .sl (v.roots.map TRoot.enc), .b v.repeat', .sl (v.dirs.map TDir.enc)]) ls
    (fun i hi cur hc => ?step) ?fin (Out.esc_ex _ _)
  case fin => simp [E_impl_blockLinesL1]
  case step =>
    have hm := List.getElem_mem hi
    have hwx := hfx _ hm
    have c2 : 0 ≤ (i : Int) ∧ (i : Int) < (v.fields.length : Int) := by omega
    have d : decide ((i : Int) < (v.fields.length : Int)) = true := decide_eq_true (by omega)
    have wi := wrap_succ hi (show v.fields.length ≤ 9223372036854775807 by omega)
    simp only [ite_self, List.nil_append] at hc ⊢
    have hv := impl_FieldText v.fields[i] hwx
    rw [show fieldText v.fields[i] = fieldT v.fields[i] by unfold fieldText; rw [if_pos (g1 _ hm)]] at hv
    simp (disch := first | omega | (simp only [List.length_append, List.length_cons, List.length_nil, brows_len, LIM] <;> omega) | fail) only [zz0, zz1, zb, zi, zs, zl, bytesRow_eq, brows_app', brows_len, List.length_append, List.length_cons, List.length_nil, LIM, if_true, if_false, zf, zr, Out.andThen_norm, Out.andThenB_ret, Out.andThenB_norm, Out.andThenB_ex, if_pos, Int.toNat_natCast, zm, true_and, and_self, decide_true, bs, E_impl_blockLinesL1, map_getD hi, TFieldDef.enc_eq, d, c2, hv, wi]
  rw [Int.natCast_zero] at hlp
  exact hlp
theorem impl_lp2 (v : TDef) (hw : wtL v.enc ≤ 1048576) (hg : dfOk v = true) (ls : List UInt8) (hl : ls.length ≤ 200000000) :
    Loop E_impl_blockLinesL2 [.s ls, .sl (v.values.map TEnumDef.enc), .i (v.values.length : Int), .i 0, .i v.kind, .b v.ext, .s v.desc, .s v.name, .sl (v.faces.map S1), .sl (v.fields.map TFieldDef.enc), .sl (v.inputs.map TInDef.enc), .sl (v.values.map TEnumDef.enc), .sl (v.roots.map TRoot.enc), .b v.repeat', .sl (v.dirs.map TDir.enc)] = .ex 2 [.s (ls ++ jt [] [] enumT v.values), .i v.kind, .b v.ext, .s v.desc, .s v.name, .sl (v.faces.map S1), .sl (v.fields.map TFieldDef.enc), .sl (v.inputs.map TInDef.enc), .sl (v.values.map TEnumDef.enc), .sl (v.roots.map TRoot.enc), .b v.repeat', .sl (v.dirs.map TDir.enc)] := by
  obtain ⟨g0, g1, g2, g3, g4⟩ := def_facts hg
  have hwd := def_wt v
  obtain ⟨hfl, hfx⟩ := sl_wt (l := v.values) (enc := TEnumDef.enc) (n := 1048576) (by omega)
  have hb := flat_len (enc := TEnumDef.enc) (f := enumT) (a := 40) v.values fun x _ => enumT_len x
  have hlp := jt_loop (o := []) (sep := []) (f := enumT) (l := v.values) (st := fun i cur => [.s cur, .sl (v.values.map TEnumDef.enc), .i (v.values.length : Int), .i (i : Int), .i v.kind, .b v.ext, .s v.desc, .s v.name, .sl (v.faces.map S1), .sl (v.fields.map TFieldDef.enc), .sl (v.inputs.map TInDef.enc), .sl (v.values.map TEnumDef.enc), .sl (v.roots.map TRoot.enc), .b v.repeat', .sl (v.dirs.map TDir.enc)]) (F := E_impl_blockLinesL2) (res := .ex 2 [.s (ls ++ jt [] [] enumT v.values), .i v.kind, .b v.ext, .s v.desc, .s v.name, .sl (v.faces.map S1), .sl (v.fields.map TFieldDef.enc), .sl (v.inputs.map TInDef.enc), .sl (v.values.map TEnumDef.enc), .sl (v.roots.map TRoot.enc), .b v.repeat', .sl (v.dirs.map TDir.enc)]) ls
    (fun i hi cur hc => ?step) ?fin (Out.esc_ex _ _)
  case fin => simp [E_impl_blockLinesL2]
  case step =>
    have hm := List.getElem_mem hi
    have hwx := hfx _ hm
    have c2 : 0 ≤ (i : Int) ∧ (i : Int) < (v.values.length : Int) := by omega
    have d : decide ((i : Int) < (v.values.length : Int)) = true := decide_eq_true (by omega)
    have wi := wrap_succ hi (show v.values.length ≤ 9223372036854775807 by omega)
    simp only [ite_self, List.nil_append] at hc ⊢
    have hwx2 := hwx
    rw [enum_wt] at hwx2
    have l1 := desc_len v.values[i].desc
    have l2 := dirs_len v.values[i].dirs
    have hv := impl_descLine v.values[i].desc (by omega)
    have hd := impl_DirsText v.values[i].dirs (by omega) (g3 _ hm)
    rw [enumT] at hc
    simp only [List.length_append, List.length_cons, List.length_nil] at hc
    simp (disch := first | omega | (simp only [List.length_append, List.length_cons, List.length_nil, brows_len, LIM] <;> omega) | fail) only [zz0, zz1, zb, zi, zs, zl, bytesRow_eq, brows_app', brows_len, List.length_append, List.length_cons, List.length_nil, LIM, if_true, if_false, zf, zr, Out.andThen_norm, Out.andThenB_ret, Out.andThenB_norm, Out.andThenB_ex, if_pos, Int.toNat_natCast, zm, true_and, and_self, decide_true, bs, E_impl_blockLinesL2, map_getD hi, TEnumDef.enc_eq, d, c2, hv, hd, wi]
    simp [enumT]
  rw [Int.natCast_zero] at hlp
  exact hlp
theorem impl_lp3 (v : TDef) (hw : wtL v.enc ≤ 1048576) (hg : dfOk v = true) (ls : List UInt8) (hl : ls.length ≤ 200000000) :
    Loop E_impl_blockLinesL3 [.s ls, .sl (v.roots.map TRoot.enc), .i (v.roots.length : Int), .i 0, .i v.kind, .b v.ext, .s v.desc, .s v.name, .sl (v.faces.map S1), .sl (v.fields.map TFieldDef.enc), .sl (v.inputs.map TInDef.enc), .sl (v.values.map TEnumDef.enc), .sl (v.roots.map TRoot.enc), .b v.repeat', .sl (v.dirs.map TDir.enc)] = .ex 4 [.s (ls ++ jt [] [] rootT v.roots), .i v.kind, .b v.ext, .s v.desc, .s v.name, .sl (v.faces.map S1), .sl (v.fields.map TFieldDef.enc), .sl (v.inputs.map TInDef.enc), .sl (v.values.map TEnumDef.enc), .sl (v.roots.map TRoot.enc), .b v.repeat', .sl (v.dirs.map TDir.enc)] := by
  obtain ⟨g0, g1, g2, g3, g4⟩ := def_facts hg
  have hwd := def_wt v
  obtain ⟨hfl, hfx⟩ := sl_wt (l := v.roots) (enc := TRoot.enc) (n := 1048576) (by omega)
  have hb := flat_len (enc := TRoot.enc) (f := rootT) (a := 40) v.roots fun x _ => rootT_len x
  have hlp := jt_loop (o := []) (sep := []) (f := rootT) (l := v.roots) (st := fun i cur => [.s cur, .sl (v.roots.map TRoot.enc), .i (v.roots.length : Int), .i (i : Int), .i v.kind, .b v.ext, .s v.desc, .s v.name, .sl (v.faces.map S1), .sl (v.fields.map TFieldDef.enc), .sl (v.inputs.map TInDef.enc), .sl (v.values.map TEnumDef.enc), .sl (v.roots.map TRoot.enc), .b v.repeat', .sl (v.dirs.map TDir.enc)]) (F := E_impl_blockLinesL3) (res := .ex 4 [.s (ls ++ jt [] [] rootT v.roots), .i v.kind, .b v.ext, .s v.desc, .s v.name, .sl (v.faces.map S1), .sl (v.fields.map TFieldDef.enc), .sl (v.inputs.map TInDef.enc), .sl (v.values.map TEnumDef.enc), .sl (v.roots.map TRoot.enc), .b v.repeat', .sl (v.dirs.map TDir.enc)]) ls
    (fun i hi cur hc => ?step) ?fin (Out.esc_ex _ _)
  case fin => simp [E_impl_blockLinesL3]
  case step =>
    have hm := List.getElem_mem hi
    have hwx := hfx _ hm
    have c2 : 0 ≤ (i : Int) ∧ (i : Int) < (v.roots.length : Int) := by omega
    have d : decide ((i : Int) < (v.roots.length : Int)) = true := decide_eq_true (by omega)
    have wi := wrap_succ hi (show v.roots.length ≤ 9223372036854775807 by omega)
    simp only [ite_self, List.nil_append] at hc ⊢
    have l1 := wordD_len v.roots[i].kind
    have hv := wordD_impl v.roots[i].kind
    rw [rootT] at hc
    simp only [List.length_append, List.length_cons, List.length_nil] at hc
    simp (disch := first | omega | (simp only [List.length_append, List.length_cons, List.length_nil, brows_len, LIM] <;> omega) | fail) only [zz0, zz1, zb, zi, zs, zl, bytesRow_eq, brows_app', brows_len, List.length_append, List.length_cons, List.length_nil, LIM, if_true, if_false, zf, zr, Out.andThen_norm, Out.andThenB_ret, Out.andThenB_norm, Out.andThenB_ex, if_pos, Int.toNat_natCast, zm, true_and, and_self, decide_true, bs, E_impl_blockLinesL3, map_getD hi, TRoot.enc_eq, d, c2, hv, wi]
    simp [rootT]
  rw [Int.natCast_zero] at hlp
  exact hlp
theorem impl_lp4 (v : TDef) (hw : wtL v.enc ≤ 1048576) (hg : dfOk v = true) (ls : List UInt8) (hl : ls.length ≤ 200000000) :
    Loop E_impl_blockLinesL4 [.s ls, .sl (v.inputs.map TInDef.enc), .i (v.inputs.length : Int), .i 0] = .ex 6 [.s (ls ++ jt [] [] inlT v.inputs)] := by
  obtain ⟨g0, g1, g2, g3, g4⟩ := def_facts hg
  have hwd := def_wt v
  obtain ⟨hfl, hfx⟩ := sl_wt (l := v.inputs) (enc := TInDef.enc) (n := 1048576) (by omega)
  have hb := flat_len (enc := TInDef.enc) (f := inlT) (a := 40) v.inputs fun x hx => inlT_len x (ins_each g2 x hx)
  have hlp := jt_loop (o := []) (sep := []) (f := inlT) (l := v.inputs) (st := fun i cur => [.s cur, .sl (v.inputs.map TInDef.enc), .i (v.inputs.length : Int), .i (i : Int)]) (F := E_impl_blockLinesL4) (res := .ex 6 [.s (ls ++ jt [] [] inlT v.inputs)]) ls
    (fun i hi cur hc => ?step) ?fin (Out.esc_ex _ _)
  case fin => simp [E_impl_blockLinesL4]
  case step =>
    have hm := List.getElem_mem hi
    have hwx := hfx _ hm
    have c2 : 0 ≤ (i : Int) ∧ (i : Int) < (v.inputs.length : Int) := by omega
    have d : decide ((i : Int) < (v.inputs.length : Int)) = true := decide_eq_true (by omega)
    have wi := wrap_succ hi (show v.inputs.length ≤ 9223372036854775807 by omega)
    simp only [ite_self, List.nil_append] at hc ⊢
    have hv := impl_InText v.inputs[i] hwx
    rw [show inText v.inputs[i] = inT v.inputs[i] by unfold inText; rw [if_pos (ins_each g2 _ hm)]] at hv
    rw [inlT] at hc
    simp only [List.length_append, List.length_cons, List.length_nil] at hc
    simp (disch := first | omega | (simp only [List.length_append, List.length_cons, List.length_nil, brows_len, LIM] <;> omega) | fail) only [zz0, zz1, zb, zi, zs, zl, bytesRow_eq, brows_app', brows_len, List.length_append, List.length_cons, List.length_nil, LIM, if_true, if_false, zf, zr, Out.andThen_norm, Out.andThenB_ret, Out.andThenB_norm, Out.andThenB_ex, if_pos, Int.toNat_natCast, zm, true_and, and_self, decide_true, bs, E_impl_blockLinesL4, map_getD hi, TInDef.enc_eq, d, c2, hv, wi]
    simp [inlT]
  rw [Int.natCast_zero] at hlp
  exact hlp
theorem impl_lines (v : TDef) (hw : wtL v.enc ≤ 1048576) (hg : dfOk v = true) : r_impl_blockLines [.i v.kind, .b v.ext, .s v.desc, .s v.name, .sl (v.faces.map S1), .sl (v.fields.map TFieldDef.enc), .sl (v.inputs.map TInDef.enc), .sl (v.values.map TEnumDef.enc), .sl (v.roots.map TRoot.enc), .b v.repeat', .sl (v.dirs.map TDir.enc)] = .ret [.s (linesT v)] := by
  have ml := lines_len hg
  have e3 : (linesT v).length = (lines3 v).length + (if v.kind = 6 then jt [] [] inlT v.inputs else []).length := by simp only [linesT, List.length_append]
  have e2 : (lines3 v).length = (lines2 v).length + (jt [] [] rootT v.roots).length := by simp only [lines3, List.length_append]
  have e1 : (lines2 v).length = (lines1 v).length + (jt [] [] enumT v.values).length := by simp only [lines2, List.length_append]
  rw [eq_impl_blockLines]
  simp only [E_impl_blockLines, zz0, zz1, zb, zi, zs, zl, zm]
  refine andB_ex (impl_lp1 v hw hg [] (by simp only [List.length_nil]; omega)) ?_
  simp only [zz0, zz1, zb, zi, zs, zl, zm]
  rw [List.nil_append]
  refine andB_ex (impl_lp2 v hw hg (lines1 v) (by omega)) ?_
  simp only [zz0, zz1, zb, zi, zs, zl, zm]
  refine andB_ex (impl_lp3 v hw hg (lines2 v) (by omega)) ?_
  simp only [zz0, zz1, zb, zi, zs, zl, zm]
  refine and_st (x := [.s (linesT v)]) ?_ rfl
  unfold linesT
  by_cases k6 : v.kind = 6
  · have c6 : (v.kind == 6) = true := beq_iff_eq.2 k6
    rw [if_pos c6, if_pos k6]
    exact andB_ex (impl_lp4 v hw hg (lines3 v) (by omega)) rfl
  · have c6 : (v.kind == 6) = false := beq_eq_false_iff_ne.2 k6
    rw [c6, if_neg (by simp), if_neg k6, List.append_nil]
    rfl
theorem impl_word (k : Int) (h : 1 ≤ k ∧ k ≤ 8) : ∃ ws : List (List DC), r_impl_defWords [] = .ret [.sl ws] ∧ (True ∧ 0 ≤ k ∧ k < (ws.length : Int)) ∧ ((ws.getD k.toNat []).getD 0 d0).ss = kwT k := by
  refine ⟨_, (eq_impl_defWords []).trans rfl, ?_, ?_⟩
  · exact ⟨trivial, by omega, by show k < ((9 : Nat) : Int); omega⟩
  · have : k = 1 ∨ k = 2 ∨ k = 3 ∨ k = 4 ∨ k = 5 ∨ k = 6 ∨ k = 7 ∨ k = 8 := by omega
    rcases this with rfl | rfl | rfl | rfl | rfl | rfl | rfl | rfl <;> rfl
set_option maxHeartbeats 8000000 in
theorem impl_DefText (v : TDef) (hw : wtL v.enc ≤ 1048576) : r_impl_DefText [.i v.kind, .b v.ext, .s v.desc, .s v.name, .sl (v.faces.map S1), .sl (v.fields.map TFieldDef.enc), .sl (v.inputs.map TInDef.enc), .sl (v.values.map TEnumDef.enc), .sl (v.roots.map TRoot.enc), .b v.repeat', .sl (v.dirs.map TDir.enc)] = .ret [.s (defText v)] := by
  have hk := impl_DefOk v hw
  rw [eq_impl_DefText]
  unfold defText
  cases hg : dfOk v with
  | false => rw [hg] at hk; simp only [E_impl_DefText, zz0, zz1, zb, zi, zs, zl, hk, zr, Bool.not_false, if_true, zf, if_false]
  | true =>
    rw [hg] at hk
    obtain ⟨g0, g1, g2, g3, g4⟩ := def_facts hg
    obtain ⟨m1, m2, m3, mh, m4, mf, mu, md, mi, mj, mn⟩ := d7_len hg
    have ml := lines_len hg
    have hwd := def_wt v
    have hE := impl_desc0 v.desc (by omega)
    obtain ⟨ws, hW, hW2, hW3⟩ := impl_word v.kind g0
    have hI := impl_insText v.inputs (by omega) g2
    have hD := impl_DirsText v.dirs (by omega) g4
    have hB := impl_lines v hw hg
    have hfa : v.faces.length ≤ 1048576 := (def_lens v hw).1
    have mj1 := mj [32, 124, 32] rfl
    have mj2 := mj [32, 38, 32] rfl
    have hJ1 := Join_gen v.faces [32, 124, 32] hfa (by omega)
    have hJ2 := Join_gen v.faces [32, 38, 32] hfa (by omega)
    have lk := kwT_len v.kind
    simp only [E_impl_DefText, zz0, zz1, zb, zi, zs, zl, hk, zr, Bool.not_true, zf, if_false, if_true]
    refine bind_st hE ?_
    simp only [zz0, zz1, zb, zi, zs, zl]
    rw [show desc0 v.desc = d1 v from rfl]
    refine and_st (x := [.s (d2 v), .i v.kind, .b v.ext, .s v.desc, .s v.name, .sl (v.faces.map S1), .sl (v.fields.map TFieldDef.enc), .sl (v.inputs.map TInDef.enc), .sl (v.values.map TEnumDef.enc), .sl (v.roots.map TRoot.enc), .b v.repeat', .sl (v.dirs.map TDir.enc)]) ?_ ?_
    · unfold d2
      cases hx : v.ext with
      | false => simp
      | true =>
        simp only [if_true]
        rw [if_pos (by simp only [LIM, List.length_cons, List.length_nil]; omega)]
    simp only [zz0, zz1, zb, zi, zs, zl]
    refine bind_st hW ?_
    simp only [zz0, zz1, zb, zi, zs, zl]
    rw [if_pos hW2, hW3, if_pos (by simp only [LIM]; omega)]
    rw [show d2 v ++ kwT v.kind = d3 v from rfl]
    refine andB_nm (x := [.s (d4 v), .i v.kind, .b v.ext, .s v.desc, .s v.name, .sl (v.faces.map S1), .sl (v.fields.map TFieldDef.enc), .sl (v.inputs.map TInDef.enc), .sl (v.values.map TEnumDef.enc), .sl (v.roots.map TRoot.enc), .b v.repeat', .sl (v.dirs.map TDir.enc)]) ?_ ?_
    · refine and_st (x := [.s (d4 v), .i v.kind, .b v.ext, .s v.desc, .s v.name, .sl (v.faces.map S1), .sl (v.fields.map TFieldDef.enc), .sl (v.inputs.map TInDef.enc), .sl (v.values.map TEnumDef.enc), .sl (v.roots.map TRoot.enc), .b v.repeat', .sl (v.dirs.map TDir.enc)]) ?_ rfl
      unfold d4 headDT
      by_cases k7 : v.kind = 7
      · have c7 : (v.kind == 7) = true := beq_iff_eq.2 k7
        have k8 : ¬ v.kind = 8 := by omega
        rw [if_pos c7, if_neg k8, if_pos k7]
        cases hr : v.repeat' with
        | true =>
          simp (disch := first | omega | (simp only [List.length_append, List.length_cons, List.length_nil, brows_len, LIM] <;> omega) | fail) only [zz0, zz1, zb, zi, zs, zl, bytesRow_eq, brows_app', brows_len, List.length_append, List.length_cons, List.length_nil, LIM, if_true, if_false, zf, zr, Out.andThen_norm, Out.andThenB_ret, Out.andThenB_norm, Out.andThenB_ex, if_pos, Int.toNat_natCast, zm, true_and, and_self, decide_true, bs, hr, hI, hJ1]
          all_goals simp
        | false =>
          simp (disch := first | omega | (simp only [List.length_append, List.length_cons, List.length_nil, brows_len, LIM] <;> omega) | fail) only [zz0, zz1, zb, zi, zs, zl, bytesRow_eq, brows_app', brows_len, List.length_append, List.length_cons, List.length_nil, LIM, if_true, if_false, zf, zr, Out.andThen_norm, Out.andThenB_ret, Out.andThenB_norm, Out.andThenB_ex, if_pos, Int.toNat_natCast, zm, true_and, and_self, decide_true, bs, hr, hI, hJ1]
          all_goals simp
      · have c7 : (v.kind == 7) = false := beq_eq_false_iff_ne.2 k7
        rw [c7, if_neg (by simp)]
        refine and_st (x := [.s (d4 v), .i v.kind, .b v.ext, .s v.desc, .s v.name, .sl (v.faces.map S1), .sl (v.fields.map TFieldDef.enc), .sl (v.inputs.map TInDef.enc), .sl (v.values.map TEnumDef.enc), .sl (v.roots.map TRoot.enc), .b v.repeat', .sl (v.dirs.map TDir.enc)]) ?_ ?_
        · unfold d4 headDT
          by_cases k8 : v.kind = 8
          · have c8 : (v.kind == 8) = true := beq_iff_eq.2 k8
            rw [if_pos c8, if_pos k8, List.append_nil]
          · have c8 : (v.kind == 8) = false := beq_eq_false_iff_ne.2 k8
            rw [c8, if_neg (by simp), if_neg k8, if_neg k7]
            simp (disch := first | omega | (simp only [List.length_append, List.length_cons, List.length_nil, brows_len, LIM] <;> omega) | fail) only [zz0, zz1, zb, zi, zs, zl, bytesRow_eq, brows_app', brows_len, List.length_append, List.length_cons, List.length_nil, LIM, if_true, if_false, zf, zr, Out.andThen_norm, Out.andThenB_ret, Out.andThenB_norm, Out.andThenB_ex, if_pos, Int.toNat_natCast, zm, true_and, and_self, decide_true, bs, zr]
            all_goals simp
        · unfold d4 headDT
          rw [if_neg k7]
          rfl
    simp only [zz0, zz1, zb, zi, zs, zl]
    refine and_st (x := [.s (d4 v), .b ((v.kind == 2 || v.kind == 3) && ne v.faces), .i v.kind, .b v.ext, .s v.desc, .s v.name, .sl (v.faces.map S1), .sl (v.fields.map TFieldDef.enc), .sl (v.inputs.map TInDef.enc), .sl (v.values.map TEnumDef.enc), .sl (v.roots.map TRoot.enc), .b v.repeat', .sl (v.dirs.map TDir.enc)]) ?_ ?_
    · rw [len_pos]
      cases (v.kind == 2) <;> cases (v.kind == 3) <;> cases ne v.faces <;> simp
    simp only [zz0, zz1, zb, zi, zs, zl]
    refine and_st (x := [.s (d5 v), .i v.kind, .b v.ext, .s v.desc, .s v.name, .sl (v.faces.map S1), .sl (v.fields.map TFieldDef.enc), .sl (v.inputs.map TInDef.enc), .sl (v.values.map TEnumDef.enc), .sl (v.roots.map TRoot.enc), .b v.repeat', .sl (v.dirs.map TDir.enc)]) ?_ ?_
    · unfold d5 facesT
      cases hf : ne v.faces with
      | false =>
        rw [nil_ne hf]
        all_goals simp
      | true =>
        have hne := ne_nil hf
        by_cases hk2 : v.kind = 2 ∨ v.kind = 3
        · have hc : (v.kind == 2 || v.kind == 3) = true := by simpa using hk2
          rw [if_pos (c := (v.kind = 2 ∨ v.kind = 3) ∧ v.faces ≠ []) ⟨hk2, hne⟩, hc]
          simp (disch := first | omega | (simp only [List.length_append, List.length_cons, List.length_nil, brows_len, LIM] <;> omega) | fail) only [zz0, zz1, zb, zi, zs, zl, bytesRow_eq, brows_app', brows_len, List.length_append, List.length_cons, List.length_nil, LIM, if_true, if_false, zf, zr, Out.andThen_norm, Out.andThenB_ret, Out.andThenB_norm, Out.andThenB_ex, if_pos, Int.toNat_natCast, zm, true_and, and_self, decide_true, bs, hJ2, Bool.true_and, Bool.and_true, Bool.and_self]
        · have hc : (v.kind == 2 || v.kind == 3) = false := by simpa using hk2
          rw [if_neg (c := (v.kind = 2 ∨ v.kind = 3) ∧ v.faces ≠ []) (fun h => hk2 h.1), hc]
          all_goals simp
    simp only [zz0, zz1, zb, zi, zs, zl]
    have m5 : (d5 v).length ≤ 70 * wtL v.enc + 150 := by unfold d5; rw [List.length_append]; omega
    refine bind_st hD ?_
    simp only [zz0, zz1, zb, zi, zs, zl]
    rw [if_pos (by simp only [LIM]; omega)]
    rw [show d5 v ++ dirsT v.dirs = d6 v from rfl]
    refine and_st (x := [.s (d6 v), .b ((v.kind == 4) && ne v.faces), .i v.kind, .b v.ext, .s v.desc, .s v.name, .sl (v.faces.map S1), .sl (v.fields.map TFieldDef.enc), .sl (v.inputs.map TInDef.enc), .sl (v.values.map TEnumDef.enc), .sl (v.roots.map TRoot.enc), .b v.repeat', .sl (v.dirs.map TDir.enc)]) ?_ ?_
    · rw [len_pos]
      cases (v.kind == 4) <;> cases ne v.faces <;> simp
    simp only [zz0, zz1, zb, zi, zs, zl]
    have m6 : (d6 v).length ≤ 80 * wtL v.enc + 200 := by unfold d6; rw [List.length_append]; omega
    refine and_st (x := [.s (d7 v), .i v.kind, .b v.ext, .s v.desc, .s v.name, .sl (v.faces.map S1), .sl (v.fields.map TFieldDef.enc), .sl (v.inputs.map TInDef.enc), .sl (v.values.map TEnumDef.enc), .sl (v.roots.map TRoot.enc), .b v.repeat', .sl (v.dirs.map TDir.enc)]) ?_ ?_
    · unfold d7 unionT
      cases hf : ne v.faces with
      | false =>
        rw [nil_ne hf]
        all_goals simp
      | true =>
        have hne := ne_nil hf
        by_cases hk2 : v.kind = 4
        · have hc : (v.kind == 4) = true := by simpa using hk2
          rw [if_pos (c := (v.kind = 4) ∧ v.faces ≠ []) ⟨hk2, hne⟩, hc]
          simp (disch := first | omega | (simp only [List.length_append, List.length_cons, List.length_nil, brows_len, LIM] <;> omega) | fail) only [zz0, zz1, zb, zi, zs, zl, bytesRow_eq, brows_app', brows_len, List.length_append, List.length_cons, List.length_nil, LIM, if_true, if_false, zf, zr, Out.andThen_norm, Out.andThenB_ret, Out.andThenB_norm, Out.andThenB_ex, if_pos, Int.toNat_natCast, zm, true_and, and_self, decide_true, bs, hJ1, Bool.true_and, Bool.and_true, Bool.and_self]
        · have hc : (v.kind == 4) = false := by simpa using hk2
          rw [if_neg (c := (v.kind = 4) ∧ v.faces ≠ []) (fun h => hk2 h.1), hc]
          all_goals simp
    simp only [zz0, zz1, zb, zi, zs, zl]
    refine bind_st hB ?_
    simp only [zz0, zz1, zb, zi, zs, zl]
    have m7 : (d7 v).length ≤ 90 * wtL v.enc + 300 := by unfold d7; rw [List.length_append]; omega
    refine and_st (x := [.s (d8 v)]) ?_ ?_
    · unfold d8
      by_cases k : linesT v = []
      · have c : (linesT v == []) = true := beq_iff_eq.2 k
        rw [if_pos k, c]
        all_goals simp
      · have c : (linesT v == []) = false := beq_eq_false_iff_ne.2 k
        rw [if_neg k, c]
        simp (disch := first | omega | (simp only [List.length_append, List.length_cons, List.length_nil, brows_len, LIM] <;> omega) | fail) only [zz0, zz1, zb, zi, zs, zl, bytesRow_eq, brows_app', brows_len, List.length_append, List.length_cons, List.length_nil, LIM, if_true, if_false, zf, zr, Out.andThen_norm, Out.andThenB_ret, Out.andThenB_norm, Out.andThenB_ex, if_pos, Int.toNat_natCast, zm, true_and, and_self, decide_true, bs, Bool.not_false]
        all_goals simp
    have m8 : (d8 v).length ≤ 150 * wtL v.enc + 400 := by
      unfold d8
      rw [List.length_append]
      split <;> simp only [List.length_append, List.length_cons, List.length_nil] <;> omega
    simp (disch := first | omega | (simp only [List.length_append, List.length_cons, List.length_nil, brows_len, LIM] <;> omega) | fail) only [zz0, zz1, zb, zi, zs, zl, bytesRow_eq, brows_app', brows_len, List.length_append, List.length_cons, List.length_nil, LIM, if_true, if_false, zf, zr, Out.andThen_norm, Out.andThenB_ret, Out.andThenB_norm, Out.andThenB_ex, if_pos, Int.toNat_natCast, zm, true_and, and_self, decide_true, bs, zr]
    rfl
theorem szS_String (ns : List (List UInt8)) (ok : (DC.sl (ns.map S1)).ok) (left : Int) (h0 : 0 ≤ left) (h1 : left ≤ 1048576) : r_laws_szStringS [.sl (ns.map S1), .i left] = .ret [.i (szR left (DC.wt (.sl (ns.map S1))))] := by
  rw [DC.ok, zm] at ok
  obtain ⟨hl, ok⟩ := ok
  rw [eq_laws_szStringS]
  simp only [E_laws_szStringS, zz0, zz1, zb, zi, zs, zl]
  refine szS_all hl (fun i hi left h0 h1 => ?_) (fun left => ?_) h0 h1
  · have hn := okV_mem ok (S1 ns[i]) (List.mem_map_of_mem (List.getElem_mem hi))
    simp only [S1, okL, DC.ok] at hn
    have hw : IntKind.i64.wrap (left - (ns[i].length : Int)) = left - (ns[i].length : Int) := wrap64 (by omega) (by omega)
    have hc1 : (i : Int) < (ns.length : Int) := by omega
    simp only [E_laws_szStringSL1, zz0, zz1, zb, zi, zs, zl, Int.toNat_natCast, zm, map_getD hi, S1, wtL, DC.wt, hw]
    by_cases hc : left < (ns[i].length : Int)
    · simp [hi, hc1, hc, show left - (ns[i].length : Int) < 0 by omega]
    · simp [hi, hc1, hc, show ¬ left - (ns[i].length : Int) < 0 by omega, wrap_succ hi hl]
  · simp [E_laws_szStringSL1]
theorem toS_String (ns : List (List UInt8)) (hl : ns.length ≤ 1048576) : r_laws_toStringS [.sl (ns.map S1)] = .ret [.sl (ns.map S1)] := by
  rw [eq_laws_toStringS]
  simp only [E_laws_toStringS, zz0, zz1, zb, zi, zs, zl]
  rw [if_pos ⟨by omega, by rw [zm]; exact lim_of hl, trivial, by omega, by omega⟩, Int.toNat_natCast, zm, show (0 : Int) = ((0 : Nat) : Int) from rfl, toS_loop hl (fun i hi cur h1 h2 => ?_) (fun cur => ?_)]
  · rfl
  · have hc1 : (i : Int) < (ns.length : Int) := by omega
    simp only [E_laws_toStringSL1, zz0, zz1, zb, zi, zs, zl, Int.toNat_natCast, zm, map_getD hi, h1, h2, S1]
    simp [hi, hc1, wrap_succ hi (show ns.length ≤ 9223372036854775807 by omega), setRunD]
  · simp [E_laws_toStringSL1]
theorem eqS_String (ns : List (List UInt8)) (hl : ns.length ≤ 1048576) : r_laws_eqStringS [.sl (ns.map S1), .sl (ns.map S1)] = .ret [.b true] := by
  rw [eq_laws_eqStringS]
  simp only [E_laws_eqStringS, zz0, zz1, zb, zi, zs, zl]
  refine eqS_all (fun i hi => ?_) ?_
  · rw [zm] at hi
    have hc1 : (i : Int) < (ns.length : Int) := by omega
    simp only [E_laws_eqStringSL1, zz0, zz1, zb, zi, zs, zl, Int.toNat_natCast, zm, map_getD hi, S1]
    simp [hi, hc1, wrap_succ hi (show ns.length ≤ 9223372036854775807 by omega)]
  · simp [E_laws_eqStringSL1]
theorem wsum_Value (v : TValue) : wtL (TValue.enc v) = v.text.length + DC.wt (.sl (v.items.map TValue.enc)) + DC.wt (.sl (v.names.map S1)) := by
  simp only [TValue.enc_eq, wtL, DC.wt]
  try omega
theorem szS_Value' (vs : List TValue) (hs : ∀ v ∈ vs, okL (TValue.enc v) → ∀ left : Int, 0 ≤ left → left ≤ 1048576 → r_laws_szValue [.i v.kind, .s v.text, .sl (v.items.map TValue.enc), .sl (v.names.map S1), .i left] = .ret [.i (szR left (wtL (TValue.enc v)))]) (ok : (DC.sl (vs.map TValue.enc)).ok) (left : Int) (h0 : 0 ≤ left) (h1 : left ≤ 1048576) : r_laws_szValueS [.sl (vs.map TValue.enc), .i left] = .ret [.i (szR left (DC.wt (.sl (vs.map TValue.enc))))] := by
  rw [DC.ok, zm] at ok
  obtain ⟨hl, ok⟩ := ok
  rw [eq_laws_szValueS]
  simp only [E_laws_szValueS, zz0, zz1, zb, zi, zs, zl]
  refine szS_all hl (fun i hi left h0 h1 => ?_) (fun left => ?_) h0 h1
  · have key := hs vs[i] (List.getElem_mem hi) (okV_mem ok _ (List.mem_map_of_mem (List.getElem_mem hi))) left h0 h1
    generalize wtL (TValue.enc vs[i]) = w at key ⊢
    have hc1 : (i : Int) < (vs.length : Int) := by omega
    simp only [E_laws_szValueSL1, zz0, zz1, zb, zi, zs, zl, Int.toNat_natCast, zm, map_getD hi, TValue.enc_eq, key, zr]
    by_cases hc : left < (w : Int)
    · simp [hi, hc1, hc, szR_lt hc]
    · simp [hi, hc1, hc, szR_ge hc, show ¬ left - (w : Int) < 0 by omega, wrap_succ hi hl]
  · simp [E_laws_szValueSL1]
theorem sz_Value (v : TValue) : okL (TValue.enc v) → ∀ left : Int, 0 ≤ left → left ≤ 1048576 → r_laws_szValue [.i v.kind, .s v.text, .sl (v.items.map TValue.enc), .sl (v.names.map S1), .i left] = .ret [.i (szR left (wtL (TValue.enc v)))] := by
  induction v using TValue.ind with | h v ih =>
  intro ok left h0 h1
  rw [TValue.enc_eq] at ok
  simp only [okL] at ok
  rw [eq_laws_szValue]
  simp only [E_laws_szValue, zz0, zz1, zb, zi, zs, zl]
  rw [wsum_Value]
  have b0 : v.text.length ≤ 9223372036854775807 := by simpa only [DC.ok] using ok.2.1
  rw [show IntKind.i64.wrap (left - (v.text.length : Int)) = left - (v.text.length : Int) from wrap64 (by omega) (by omega)]
  by_cases c0 : left < ((v.text.length : Nat) : Int)
  · have c0' : left - ((v.text.length : Nat) : Int) < 0 := by omega
    simp only [c0', decide_true, if_true]
    try rw [szR_lt (by omega)]
  have c0' : ¬ left - ((v.text.length : Nat) : Int) < 0 := by omega
  simp only [c0', decide_false, zf, if_false]
  rw [szS_Value' v.items (fun x hx => ih x hx) ok.2.2.1 ((left - ((v.text.length : Nat) : Int))) (by omega) (by omega)]
  simp only [zr, zz0, zz1, zb, zi, zs, zl]
  by_cases c1 : (left - ((v.text.length : Nat) : Int)) < ((DC.wt (.sl (v.items.map TValue.enc)) : Nat) : Int)
  · rw [szR_lt c1]
    simp only [show (-1 : Int) < 0 by omega, decide_true, if_true]
    try rw [szR_lt (by omega)]
  rw [szR_ge c1]
  have c1' : ¬ (left - ((v.text.length : Nat) : Int)) - ((DC.wt (.sl (v.items.map TValue.enc)) : Nat) : Int) < 0 := by omega
  simp only [c1', decide_false, zf, if_false]
  rw [szS_String v.names ok.2.2.2.1 (((left - ((v.text.length : Nat) : Int)) - ((DC.wt (.sl (v.items.map TValue.enc)) : Nat) : Int))) (by omega) (by omega)]
  simp only [zr, zz0, zz1, zb, zi, zs, zl]
  by_cases c2 : ((left - ((v.text.length : Nat) : Int)) - ((DC.wt (.sl (v.items.map TValue.enc)) : Nat) : Int)) < ((DC.wt (.sl (v.names.map S1)) : Nat) : Int)
  · rw [szR_lt c2]
    simp only [show (-1 : Int) < 0 by omega, decide_true, if_true]
    try rw [szR_lt (by omega)]
  rw [szR_ge c2]
  have c2' : ¬ ((left - ((v.text.length : Nat) : Int)) - ((DC.wt (.sl (v.items.map TValue.enc)) : Nat) : Int)) - ((DC.wt (.sl (v.names.map S1)) : Nat) : Int) < 0 := by omega
  simp only [c2', decide_false, zf, if_false]
  first
  | done
  | rw [show szR left (v.text.length + DC.wt (.sl (v.items.map TValue.enc)) + DC.wt (.sl (v.names.map S1))) = (((left - ((v.text.length : Nat) : Int)) - ((DC.wt (.sl (v.items.map TValue.enc)) : Nat) : Int)) - ((DC.wt (.sl (v.names.map S1)) : Nat) : Int)) from (szR_ge (by omega)).trans (by omega)]
theorem toS_Value' (vs : List TValue) (hs : ∀ v ∈ vs, wtL (TValue.enc v) ≤ 1048576 → r_laws_toValue [.i v.kind, .s v.text, .sl (v.items.map TValue.enc), .sl (v.names.map S1)] = .ret (TValue.enc v)) (hw : DC.wt (.sl (vs.map TValue.enc)) ≤ 1048576) : r_laws_toValueS [.sl (vs.map TValue.enc)] = .ret [.sl (vs.map TValue.enc)] := by
  rw [DC.wt, zm] at hw
  have hl : vs.length ≤ 1048576 := by omega
  rw [eq_laws_toValueS]
  simp only [E_laws_toValueS, zz0, zz1, zb, zi, zs, zl]
  rw [if_pos ⟨by omega, by rw [zm]; exact lim_of hl, trivial, by omega, by omega⟩, Int.toNat_natCast, zm, show (0 : Int) = ((0 : Nat) : Int) from rfl, toS_loop hl (fun i hi cur h1 h2 => ?_) (fun cur => ?_)]
  · rfl
  · have key := hs vs[i] (List.getElem_mem hi) (by have := wtV_mem (List.mem_map_of_mem (f := TValue.enc) (List.getElem_mem hi)); omega)
    have hc1 : (i : Int) < (vs.length : Int) := by omega
    simp only [E_laws_toValueSL1, zz0, zz1, zb, zi, zs, zl, Int.toNat_natCast, zm, map_getD hi, h1, h2, TValue.enc_eq] at key ⊢
    simp only [key, zz0, zz1, zb, zi, zs, zl, zr]
    simp [hi, hc1, wrap_succ hi (show vs.length ≤ 9223372036854775807 by omega), setRunD]
  · simp [E_laws_toValueSL1]
theorem to_Value (v : TValue) : wtL (TValue.enc v) ≤ 1048576 → r_laws_toValue [.i v.kind, .s v.text, .sl (v.items.map TValue.enc), .sl (v.names.map S1)] = .ret (TValue.enc v) := by
  induction v using TValue.ind with | h v ih =>
  intro hw
  rw [wsum_Value] at hw
  rw [eq_laws_toValue]
  simp only [E_laws_toValue, zz0, zz1, zb, zi, zs, zl]
  rw [toS_Value' v.items (fun x hx => ih x hx) (by omega)]
  simp only [zr, zz0, zz1, zb, zi, zs, zl]
  rw [toS_String v.names (by have h := hw; simp only [DC.wt, zm] at h; omega)]
  simp only [zr, zz0, zz1, zb, zi, zs, zl]
  rw [TValue.enc_eq]
theorem eqS_Value' (vs : List TValue) (hs : ∀ v ∈ vs, wtL (TValue.enc v) ≤ 1048576 → r_laws_eqValue [.i v.kind, .s v.text, .sl (v.items.map TValue.enc), .sl (v.names.map S1), .i v.kind, .s v.text, .sl (v.items.map TValue.enc), .sl (v.names.map S1)] = .ret [.b true]) (hw : DC.wt (.sl (vs.map TValue.enc)) ≤ 1048576) : r_laws_eqValueS [.sl (vs.map TValue.enc), .sl (vs.map TValue.enc)] = .ret [.b true] := by
  rw [DC.wt, zm] at hw
  have hl : vs.length ≤ 1048576 := by omega
  rw [eq_laws_eqValueS]
  simp only [E_laws_eqValueS, zz0, zz1, zb, zi, zs, zl]
  refine eqS_all (fun i hi => ?_) ?_
  · rw [zm] at hi
    have key := hs vs[i] (List.getElem_mem hi) (by have := wtV_mem (List.mem_map_of_mem (f := TValue.enc) (List.getElem_mem hi)); omega)
    have hc1 : (i : Int) < (vs.length : Int) := by omega
    simp only [E_laws_eqValueSL1, zz0, zz1, zb, zi, zs, zl, Int.toNat_natCast, zm, map_getD hi, TValue.enc_eq] at key ⊢
    simp only [key, zz0, zz1, zb, zi, zs, zl, zr]
    simp [hi, hc1, wrap_succ hi (show vs.length ≤ 9223372036854775807 by omega)]
  · simp [E_laws_eqValueSL1]
theorem eq_Value (v : TValue) : wtL (TValue.enc v) ≤ 1048576 → r_laws_eqValue [.i v.kind, .s v.text, .sl (v.items.map TValue.enc), .sl (v.names.map S1), .i v.kind, .s v.text, .sl (v.items.map TValue.enc), .sl (v.names.map S1)] = .ret [.b true] := by
  induction v using TValue.ind with | h v ih =>
  intro hw
  rw [wsum_Value] at hw
  rw [eq_laws_eqValue]
  simp only [E_laws_eqValue, zz0, zz1, zb, zi, zs, zl, bne_self_eq_false, beq_self_eq_true, Bool.not_true, zf, if_false]
  rw [eqS_Value' v.items (fun x hx => ih x hx) (by omega)]
  simp only [zr, zz0, zz1, zb, zi, zs, zl, bne_self_eq_false, beq_self_eq_true, Bool.not_true, zf, if_false]
  rw [eqS_String v.names (by have h := hw; simp only [DC.wt, zm] at h; omega)]
  simp only [zr, zz0, zz1, zb, zi, zs, zl, bne_self_eq_false, beq_self_eq_true, Bool.not_true, zf, if_false]
theorem wsum_Type (v : TType) : wtL (TType.enc v) = v.name.length + v.wraps.length := by
  simp only [TType.enc_eq, wtL, DC.wt]
  try omega
theorem sz_Type (v : TType) : okL (TType.enc v) → ∀ left : Int, 0 ≤ left → left ≤ 1048576 → r_laws_szType [.s v.name, .s v.wraps, .i left] = .ret [.i (szR left (wtL (TType.enc v)))] := by
  intro ok left h0 h1
  rw [TType.enc_eq] at ok
  simp only [okL] at ok
  rw [eq_laws_szType]
  simp only [E_laws_szType, zz0, zz1, zb, zi, zs, zl]
  rw [wsum_Type]
  have b0 : v.name.length ≤ 9223372036854775807 := by simpa only [DC.ok] using ok.1
  have b1 : v.wraps.length ≤ 9223372036854775807 := by simpa only [DC.ok] using ok.2.1
  rw [show IntKind.i64.wrap (left - (v.name.length : Int)) = left - (v.name.length : Int) from wrap64 (by omega) (by omega)]
  by_cases c0 : left < ((v.name.length : Nat) : Int)
  · have c0' : left - ((v.name.length : Nat) : Int) < 0 := by omega
    simp only [c0', decide_true, if_true]
    try rw [szR_lt (by omega)]
  have c0' : ¬ left - ((v.name.length : Nat) : Int) < 0 := by omega
  simp only [c0', decide_false, zf, if_false]
  rw [show IntKind.i64.wrap ((left - ((v.name.length : Nat) : Int)) - (v.wraps.length : Int)) = (left - ((v.name.length : Nat) : Int)) - (v.wraps.length : Int) from wrap64 (by omega) (by omega)]
  by_cases c1 : (left - ((v.name.length : Nat) : Int)) < ((v.wraps.length : Nat) : Int)
  · have c1' : (left - ((v.name.length : Nat) : Int)) - ((v.wraps.length : Nat) : Int) < 0 := by omega
    simp only [c1', decide_true, if_true]
    try rw [szR_lt (by omega)]
  have c1' : ¬ (left - ((v.name.length : Nat) : Int)) - ((v.wraps.length : Nat) : Int) < 0 := by omega
  simp only [c1', decide_false, zf, if_false]
  first
  | done
  | rw [show szR left (v.name.length + v.wraps.length) = ((left - ((v.name.length : Nat) : Int)) - ((v.wraps.length : Nat) : Int)) from (szR_ge (by omega)).trans (by omega)]
theorem to_Type (v : TType) : wtL (TType.enc v) ≤ 1048576 → r_laws_toType [.s v.name, .s v.wraps] = .ret (TType.enc v) := by
  intro hw
  rw [wsum_Type] at hw
  rw [eq_laws_toType]
  simp only [E_laws_toType, zz0, zz1, zb, zi, zs, zl]
  rw [TType.enc_eq]
theorem eq_Type (v : TType) : wtL (TType.enc v) ≤ 1048576 → r_laws_eqType [.s v.name, .s v.wraps, .s v.name, .s v.wraps] = .ret [.b true] := by
  intro hw
  rw [wsum_Type] at hw
  rw [eq_laws_eqType]
  simp only [E_laws_eqType, zz0, zz1, zb, zi, zs, zl, bne_self_eq_false, beq_self_eq_true, Bool.not_true, zf, if_false]
theorem wsum_Arg (v : TArg) : wtL (TArg.enc v) = v.name.length + wtL (TValue.enc v.value) := by
  simp only [TArg.enc_eq, wtL, DC.wt, TValue.enc_eq]
  try omega
theorem sz_Arg (v : TArg) : okL (TArg.enc v) → ∀ left : Int, 0 ≤ left → left ≤ 1048576 → r_laws_szArg [.s v.name, .i v.value.kind, .s v.value.text, .sl (v.value.items.map TValue.enc), .sl (v.value.names.map S1), .i left] = .ret [.i (szR left (wtL (TArg.enc v)))] := by
  intro ok left h0 h1
  rw [TArg.enc_eq] at ok
  simp only [okL] at ok
  rw [eq_laws_szArg]
  simp only [E_laws_szArg, zz0, zz1, zb, zi, zs, zl]
  rw [wsum_Arg]
  have b0 : v.name.length ≤ 9223372036854775807 := by simpa only [DC.ok] using ok.1
  rw [show IntKind.i64.wrap (left - (v.name.length : Int)) = left - (v.name.length : Int) from wrap64 (by omega) (by omega)]
  by_cases c0 : left < ((v.name.length : Nat) : Int)
  · have c0' : left - ((v.name.length : Nat) : Int) < 0 := by omega
    simp only [c0', decide_true, if_true]
    try rw [szR_lt (by omega)]
  have c0' : ¬ left - ((v.name.length : Nat) : Int) < 0 := by omega
  simp only [c0', decide_false, zf, if_false]
  rw [sz_Value v.value (by rw [TValue.enc_eq]; simp only [okL]; exact ⟨ok.2.1, ok.2.2.1, ok.2.2.2.1, ok.2.2.2.2.1, trivial⟩) ((left - ((v.name.length : Nat) : Int))) (by omega) (by omega)]
  simp only [zr, zz0, zz1, zb, zi, zs, zl]
  by_cases c1 : (left - ((v.name.length : Nat) : Int)) < ((wtL (TValue.enc v.value) : Nat) : Int)
  · rw [szR_lt c1]
    simp only [show (-1 : Int) < 0 by omega, decide_true, if_true]
    try rw [szR_lt (by omega)]
  rw [szR_ge c1]
  have c1' : ¬ (left - ((v.name.length : Nat) : Int)) - ((wtL (TValue.enc v.value) : Nat) : Int) < 0 := by omega
  simp only [c1', decide_false, zf, if_false]
  first
  | done
  | rw [show szR left (v.name.length + wtL (TValue.enc v.value)) = ((left - ((v.name.length : Nat) : Int)) - ((wtL (TValue.enc v.value) : Nat) : Int)) from (szR_ge (by omega)).trans (by omega)]
theorem szS_Arg' (vs : List TArg) (hs : ∀ v ∈ vs, okL (TArg.enc v) → ∀ left : Int, 0 ≤ left → left ≤ 1048576 → r_laws_szArg [.s v.name, .i v.value.kind, .s v.value.text, .sl (v.value.items.map TValue.enc), .sl (v.value.names.map S1), .i left] = .ret [.i (szR left (wtL (TArg.enc v)))]) (ok : (DC.sl (vs.map TArg.enc)).ok) (left : Int) (h0 : 0 ≤ left) (h1 : left ≤ 1048576) : r_laws_szArgS [.sl (vs.map TArg.enc), .i left] = .ret [.i (szR left (DC.wt (.sl (vs.map TArg.enc))))] := by
  rw [DC.ok, zm] at ok
  obtain ⟨hl, ok⟩ := ok
  rw [eq_laws_szArgS]
  simp only [E_laws_szArgS, zz0, zz1, zb, zi, zs, zl]
  refine szS_all hl (fun i hi left h0 h1 => ?_) (fun left => ?_) h0 h1
  · have key := hs vs[i] (List.getElem_mem hi) (okV_mem ok _ (List.mem_map_of_mem (List.getElem_mem hi))) left h0 h1
    generalize wtL (TArg.enc vs[i]) = w at key ⊢
    have hc1 : (i : Int) < (vs.length : Int) := by omega
    simp only [E_laws_szArgSL1, zz0, zz1, zb, zi, zs, zl, Int.toNat_natCast, zm, map_getD hi, TArg.enc_eq, key, zr]
    by_cases hc : left < (w : Int)
    · simp [hi, hc1, hc, szR_lt hc]
    · simp [hi, hc1, hc, szR_ge hc, show ¬ left - (w : Int) < 0 by omega, wrap_succ hi hl]
  · simp [E_laws_szArgSL1]
theorem szS_Arg (vs : List TArg) (ok : (DC.sl (vs.map TArg.enc)).ok) (left : Int) (h0 : 0 ≤ left) (h1 : left ≤ 1048576) : r_laws_szArgS [.sl (vs.map TArg.enc), .i left] = .ret [.i (szR left (DC.wt (.sl (vs.map TArg.enc))))] := szS_Arg' vs (fun v _ => sz_Arg v) ok left h0 h1
theorem to_Arg (v : TArg) : wtL (TArg.enc v) ≤ 1048576 → r_laws_toArg [.s v.name, .i v.value.kind, .s v.value.text, .sl (v.value.items.map TValue.enc), .sl (v.value.names.map S1)] = .ret (TArg.enc v) := by
  intro hw
  rw [wsum_Arg] at hw
  rw [eq_laws_toArg]
  simp only [E_laws_toArg, zz0, zz1, zb, zi, zs, zl]
  rw [to_Value v.value (by omega)]
  simp only [zr, TValue.enc_eq, zz0, zz1, zb, zi, zs, zl]
  rw [TArg.enc_eq]
theorem toS_Arg' (vs : List TArg) (hs : ∀ v ∈ vs, wtL (TArg.enc v) ≤ 1048576 → r_laws_toArg [.s v.name, .i v.value.kind, .s v.value.text, .sl (v.value.items.map TValue.enc), .sl (v.value.names.map S1)] = .ret (TArg.enc v)) (hw : DC.wt (.sl (vs.map TArg.enc)) ≤ 1048576) : r_laws_toArgS [.sl (vs.map TArg.enc)] = .ret [.sl (vs.map TArg.enc)] := by
  rw [DC.wt, zm] at hw
  have hl : vs.length ≤ 1048576 := by omega
  rw [eq_laws_toArgS]
  simp only [E_laws_toArgS, zz0, zz1, zb, zi, zs, zl]
  rw [if_pos ⟨by omega, by rw [zm]; exact lim_of hl, trivial, by omega, by omega⟩, Int.toNat_natCast, zm, show (0 : Int) = ((0 : Nat) : Int) from rfl, toS_loop hl (fun i hi cur h1 h2 => ?_) (fun cur => ?_)]
  · rfl
  · have key := hs vs[i] (List.getElem_mem hi) (by have := wtV_mem (List.mem_map_of_mem (f := TArg.enc) (List.getElem_mem hi)); omega)
    have hc1 : (i : Int) < (vs.length : Int) := by omega
    simp only [E_laws_toArgSL1, zz0, zz1, zb, zi, zs, zl, Int.toNat_natCast, zm, map_getD hi, h1, h2, TArg.enc_eq] at key ⊢
    simp only [key, zz0, zz1, zb, zi, zs, zl, zr]
    simp [hi, hc1, wrap_succ hi (show vs.length ≤ 9223372036854775807 by omega), setRunD]
  · simp [E_laws_toArgSL1]
theorem toS_Arg (vs : List TArg) (hw : DC.wt (.sl (vs.map TArg.enc)) ≤ 1048576) : r_laws_toArgS [.sl (vs.map TArg.enc)] = .ret [.sl (vs.map TArg.enc)] := toS_Arg' vs (fun v _ => to_Arg v) hw
theorem eq_Arg (v : TArg) : wtL (TArg.enc v) ≤ 1048576 → r_laws_eqArg [.s v.name, .i v.value.kind, .s v.value.text, .sl (v.value.items.map TValue.enc), .sl (v.value.names.map S1), .s v.name, .i v.value.kind, .s v.value.text, .sl (v.value.items.map TValue.enc), .sl (v.value.names.map S1)] = .ret [.b true] := by
  intro hw
  rw [wsum_Arg] at hw
  rw [eq_laws_eqArg]
  simp only [E_laws_eqArg, zz0, zz1, zb, zi, zs, zl, bne_self_eq_false, beq_self_eq_true, Bool.not_true, zf, if_false]
  rw [eq_Value v.value (by omega)]
  simp only [zr, zz0, zz1, zb, zi, zs, zl, bne_self_eq_false, beq_self_eq_true, Bool.not_true, zf, if_false]
theorem eqS_Arg' (vs : List TArg) (hs : ∀ v ∈ vs, wtL (TArg.enc v) ≤ 1048576 → r_laws_eqArg [.s v.name, .i v.value.kind, .s v.value.text, .sl (v.value.items.map TValue.enc), .sl (v.value.names.map S1), .s v.name, .i v.value.kind, .s v.value.text, .sl (v.value.items.map TValue.enc), .sl (v.value.names.map S1)] = .ret [.b true]) (hw : DC.wt (.sl (vs.map TArg.enc)) ≤ 1048576) : r_laws_eqArgS [.sl (vs.map TArg.enc), .sl (vs.map TArg.enc)] = .ret [.b true] := by
  rw [DC.wt, zm] at hw
  have hl : vs.length ≤ 1048576 := by omega
  rw [eq_laws_eqArgS]
  simp only [E_laws_eqArgS, zz0, zz1, zb, zi, zs, zl]
  refine eqS_all (fun i hi => ?_) ?_
  · rw [zm] at hi
    have key := hs vs[i] (List.getElem_mem hi) (by have := wtV_mem (List.mem_map_of_mem (f := TArg.enc) (List.getElem_mem hi)); omega)
    have hc1 : (i : Int) < (vs.length : Int) := by omega
    simp only [E_laws_eqArgSL1, zz0, zz1, zb, zi, zs, zl, Int.toNat_natCast, zm, map_getD hi, TArg.enc_eq] at key ⊢
    simp only [key, zz0, zz1, zb, zi, zs, zl, zr]
    simp [hi, hc1, wrap_succ hi (show vs.length ≤ 9223372036854775807 by omega)]
  · simp [E_laws_eqArgSL1]
theorem eqS_Arg (vs : List TArg) (hw : DC.wt (.sl (vs.map TArg.enc)) ≤ 1048576) : r_laws_eqArgS [.sl (vs.map TArg.enc), .sl (vs.map TArg.enc)] = .ret [.b true] := eqS_Arg' vs (fun v _ => eq_Arg v) hw
theorem wsum_Dir (v : TDir) : wtL (TDir.enc v) = v.name.length + DC.wt (.sl (v.args.map TArg.enc)) := by
  simp only [TDir.enc_eq, wtL, DC.wt]
  try omega
theorem sz_Dir (v : TDir) : okL (TDir.enc v) → ∀ left : Int, 0 ≤ left → left ≤ 1048576 → r_laws_szDir [.s v.name, .sl (v.args.map TArg.enc), .i left] = .ret [.i (szR left (wtL (TDir.enc v)))] := by
  intro ok left h0 h1
  rw [TDir.enc_eq] at ok
  simp only [okL] at ok
  rw [eq_laws_szDir]
  simp only [E_laws_szDir, zz0, zz1, zb, zi, zs, zl]
  rw [wsum_Dir]
  have b0 : v.name.length ≤ 9223372036854775807 := by simpa only [DC.ok] using ok.1
  rw [show IntKind.i64.wrap (left - (v.name.length : Int)) = left - (v.name.length : Int) from wrap64 (by omega) (by omega)]
  by_cases c0 : left < ((v.name.length : Nat) : Int)
  · have c0' : left - ((v.name.length : Nat) : Int) < 0 := by omega
    simp only [c0', decide_true, if_true]
    try rw [szR_lt (by omega)]
  have c0' : ¬ left - ((v.name.length : Nat) : Int) < 0 := by omega
  simp only [c0', decide_false, zf, if_false]
  rw [szS_Arg v.args ok.2.1 ((left - ((v.name.length : Nat) : Int))) (by omega) (by omega)]
  simp only [zr, zz0, zz1, zb, zi, zs, zl]
  by_cases c1 : (left - ((v.name.length : Nat) : Int)) < ((DC.wt (.sl (v.args.map TArg.enc)) : Nat) : Int)
  · rw [szR_lt c1]
    simp only [show (-1 : Int) < 0 by omega, decide_true, if_true]
    try rw [szR_lt (by omega)]
  rw [szR_ge c1]
  have c1' : ¬ (left - ((v.name.length : Nat) : Int)) - ((DC.wt (.sl (v.args.map TArg.enc)) : Nat) : Int) < 0 := by omega
  simp only [c1', decide_false, zf, if_false]
  first
  | done
  | rw [show szR left (v.name.length + DC.wt (.sl (v.args.map TArg.enc))) = ((left - ((v.name.length : Nat) : Int)) - ((DC.wt (.sl (v.args.map TArg.enc)) : Nat) : Int)) from (szR_ge (by omega)).trans (by omega)]
theorem szS_Dir' (vs : List TDir) (hs : ∀ v ∈ vs, okL (TDir.enc v) → ∀ left : Int, 0 ≤ left → left ≤ 1048576 → r_laws_szDir [.s v.name, .sl (v.args.map TArg.enc), .i left] = .ret [.i (szR left (wtL (TDir.enc v)))]) (ok : (DC.sl (vs.map TDir.enc)).ok) (left : Int) (h0 : 0 ≤ left) (h1 : left ≤ 1048576) : r_laws_szDirS [.sl (vs.map TDir.enc), .i left] = .ret [.i (szR left (DC.wt (.sl (vs.map TDir.enc))))] := by
  rw [DC.ok, zm] at ok
  obtain ⟨hl, ok⟩ := ok
  rw [eq_laws_szDirS]
  simp only [E_laws_szDirS, zz0, zz1, zb, zi, zs, zl]
  refine szS_all hl (fun i hi left h0 h1 => ?_) (fun left => ?_) h0 h1
  · have key := hs vs[i] (List.getElem_mem hi) (okV_mem ok _ (List.mem_map_of_mem (List.getElem_mem hi))) left h0 h1
    generalize wtL (TDir.enc vs[i]) = w at key ⊢
    have hc1 : (i : Int) < (vs.length : Int) := by omega
    simp only [E_laws_szDirSL1, zz0, zz1, zb, zi, zs, zl, Int.toNat_natCast, zm, map_getD hi, TDir.enc_eq, key, zr]
    by_cases hc : left < (w : Int)
    · simp [hi, hc1, hc, szR_lt hc]
    · simp [hi, hc1, hc, szR_ge hc, show ¬ left - (w : Int) < 0 by omega, wrap_succ hi hl]
  · simp [E_laws_szDirSL1]
theorem szS_Dir (vs : List TDir) (ok : (DC.sl (vs.map TDir.enc)).ok) (left : Int) (h0 : 0 ≤ left) (h1 : left ≤ 1048576) : r_laws_szDirS [.sl (vs.map TDir.enc), .i left] = .ret [.i (szR left (DC.wt (.sl (vs.map TDir.enc))))] := szS_Dir' vs (fun v _ => sz_Dir v) ok left h0 h1
theorem to_Dir (v : TDir) : wtL (TDir.enc v) ≤ 1048576 → r_laws_toDir [.s v.name, .sl (v.args.map TArg.enc)] = .ret (TDir.enc v) := by
  intro hw
  rw [wsum_Dir] at hw
  rw [eq_laws_toDir]
  simp only [E_laws_toDir, zz0, zz1, zb, zi, zs, zl]
  rw [toS_Arg v.args (by omega)]
  simp only [zr, zz0, zz1, zb, zi, zs, zl]
  rw [TDir.enc_eq]
theorem toS_Dir' (vs : List TDir) (hs : ∀ v ∈ vs, wtL (TDir.enc v) ≤ 1048576 → r_laws_toDir [.s v.name, .sl (v.args.map TArg.enc)] = .ret (TDir.enc v)) (hw : DC.wt (.sl (vs.map TDir.enc)) ≤ 1048576) : r_laws_toDirS [.sl (vs.map TDir.enc)] = .ret [.sl (vs.map TDir.enc)] := by
  rw [DC.wt, zm] at hw
  have hl : vs.length ≤ 1048576 := by omega
  rw [eq_laws_toDirS]
  simp only [E_laws_toDirS, zz0, zz1, zb, zi, zs, zl]
  rw [if_pos ⟨by omega, by rw [zm]; exact lim_of hl, trivial, by omega, by omega⟩, Int.toNat_natCast, zm, show (0 : Int) = ((0 : Nat) : Int) from rfl, toS_loop hl (fun i hi cur h1 h2 => ?_) (fun cur => ?_)]
  · rfl
  · have key := hs vs[i] (List.getElem_mem hi) (by have := wtV_mem (List.mem_map_of_mem (f := TDir.enc) (List.getElem_mem hi)); omega)
    have hc1 : (i : Int) < (vs.length : Int) := by omega
    simp only [E_laws_toDirSL1, zz0, zz1, zb, zi, zs, zl, Int.toNat_natCast, zm, map_getD hi, h1, h2, TDir.enc_eq] at key ⊢
    simp only [key, zz0, zz1, zb, zi, zs, zl, zr]
    simp [hi, hc1, wrap_succ hi (show vs.length ≤ 9223372036854775807 by omega), setRunD]
  · simp [E_laws_toDirSL1]
theorem toS_Dir (vs : List TDir) (hw : DC.wt (.sl (vs.map TDir.enc)) ≤ 1048576) : r_laws_toDirS [.sl (vs.map TDir.enc)] = .ret [.sl (vs.map TDir.enc)] := toS_Dir' vs (fun v _ => to_Dir v) hw
theorem eq_Dir (v : TDir) : wtL (TDir.enc v) ≤ 1048576 → r_laws_eqDir [.s v.name, .sl (v.args.map TArg.enc), .s v.name, .sl (v.args.map TArg.enc)] = .ret [.b true] := by
  intro hw
  rw [wsum_Dir] at hw
  rw [eq_laws_eqDir]
  simp only [E_laws_eqDir, zz0, zz1, zb, zi, zs, zl, bne_self_eq_false, beq_self_eq_true, Bool.not_true, zf, if_false]
  rw [eqS_Arg v.args (by omega)]
  simp only [zr, zz0, zz1, zb, zi, zs, zl, bne_self_eq_false, beq_self_eq_true, Bool.not_true, zf, if_false]
theorem eqS_Dir' (vs : List TDir) (hs : ∀ v ∈ vs, wtL (TDir.enc v) ≤ 1048576 → r_laws_eqDir [.s v.name, .sl (v.args.map TArg.enc), .s v.name, .sl (v.args.map TArg.enc)] = .ret [.b true]) (hw : DC.wt (.sl (vs.map TDir.enc)) ≤ 1048576) : r_laws_eqDirS [.sl (vs.map TDir.enc), .sl (vs.map TDir.enc)] = .ret [.b true] := by
  rw [DC.wt, zm] at hw
  have hl : vs.length ≤ 1048576 := by omega
  rw [eq_laws_eqDirS]
  simp only [E_laws_eqDirS, zz0, zz1, zb, zi, zs, zl]
  refine eqS_all (fun i hi => ?_) ?_
  · rw [zm] at hi
    have key := hs vs[i] (List.getElem_mem hi) (by have := wtV_mem (List.mem_map_of_mem (f := TDir.enc) (List.getElem_mem hi)); omega)
    have hc1 : (i : Int) < (vs.length : Int) := by omega
    simp only [E_laws_eqDirSL1, zz0, zz1, zb, zi, zs, zl, Int.toNat_natCast, zm, map_getD hi, TDir.enc_eq] at key ⊢
    simp only [key, zz0, zz1, zb, zi, zs, zl, zr]
    simp [hi, hc1, wrap_succ hi (show vs.length ≤ 9223372036854775807 by omega)]
  · simp [E_laws_eqDirSL1]
theorem eqS_Dir (vs : List TDir) (hw : DC.wt (.sl (vs.map TDir.enc)) ≤ 1048576) : r_laws_eqDirS [.sl (vs.map TDir.enc), .sl (vs.map TDir.enc)] = .ret [.b true] := eqS_Dir' vs (fun v _ => eq_Dir v) hw
theorem wsum_InDef (v : TInDef) : wtL (TInDef.enc v) = v.name.length + v.desc.length + wtL (TType.enc v.type') + wtL (TValue.enc v.default') + DC.wt (.sl (v.dirs.map TDir.enc)) := by
  simp only [TInDef.enc_eq, wtL, DC.wt, TType.enc_eq, TValue.enc_eq]
  try omega
theorem sz_InDef (v : TInDef) : okL (TInDef.enc v) → ∀ left : Int, 0 ≤ left → left ≤ 1048576 → r_laws_szInDef [.s v.name, .s v.desc, .s v.type'.name, .s v.type'.wraps, .b v.has', .i v.default'.kind, .s v.default'.text, .sl (v.default'.items.map TValue.enc), .sl (v.default'.names.map S1), .sl (v.dirs.map TDir.enc), .i left] = .ret [.i (szR left (wtL (TInDef.enc v)))] := by
  intro ok left h0 h1
  rw [TInDef.enc_eq] at ok
  simp only [okL] at ok
  rw [eq_laws_szInDef]
  simp only [E_laws_szInDef, zz0, zz1, zb, zi, zs, zl]
  rw [wsum_InDef]
  have b0 : v.name.length ≤ 9223372036854775807 := by simpa only [DC.ok] using ok.1
  have b1 : v.desc.length ≤ 9223372036854775807 := by simpa only [DC.ok] using ok.2.1
  rw [show IntKind.i64.wrap (left - (v.name.length : Int)) = left - (v.name.length : Int) from wrap64 (by omega) (by omega)]
  by_cases c0 : left < ((v.name.length : Nat) : Int)
  · have c0' : left - ((v.name.length : Nat) : Int) < 0 := by omega
    simp only [c0', decide_true, if_true]
    try rw [szR_lt (by omega)]
  have c0' : ¬ left - ((v.name.length : Nat) : Int) < 0 := by omega
  simp only [c0', decide_false, zf, if_false]
  rw [show IntKind.i64.wrap ((left - ((v.name.length : Nat) : Int)) - (v.desc.length : Int)) = (left - ((v.name.length : Nat) : Int)) - (v.desc.length : Int) from wrap64 (by omega) (by omega)]
  by_cases c1 : (left - ((v.name.length : Nat) : Int)) < ((v.desc.length : Nat) : Int)
  · have c1' : (left - ((v.name.length : Nat) : Int)) - ((v.desc.length : Nat) : Int) < 0 := by omega
    simp only [c1', decide_true, if_true]
    try rw [szR_lt (by omega)]
  have c1' : ¬ (left - ((v.name.length : Nat) : Int)) - ((v.desc.length : Nat) : Int) < 0 := by omega
  simp only [c1', decide_false, zf, if_false]
  rw [sz_Type v.type' (by rw [TType.enc_eq]; simp only [okL]; exact ⟨ok.2.2.1, ok.2.2.2.1, trivial⟩) (((left - ((v.name.length : Nat) : Int)) - ((v.desc.length : Nat) : Int))) (by omega) (by omega)]
  simp only [zr, zz0, zz1, zb, zi, zs, zl]
  by_cases c2 : ((left - ((v.name.length : Nat) : Int)) - ((v.desc.length : Nat) : Int)) < ((wtL (TType.enc v.type') : Nat) : Int)
  · rw [szR_lt c2]
    simp only [show (-1 : Int) < 0 by omega, decide_true, if_true]
    try rw [szR_lt (by omega)]
  rw [szR_ge c2]
  have c2' : ¬ ((left - ((v.name.length : Nat) : Int)) - ((v.desc.length : Nat) : Int)) - ((wtL (TType.enc v.type') : Nat) : Int) < 0 := by omega
  simp only [c2', decide_false, zf, if_false]
  rw [sz_Value v.default' (by rw [TValue.enc_eq]; simp only [okL]; exact ⟨ok.2.2.2.2.2.1, ok.2.2.2.2.2.2.1, ok.2.2.2.2.2.2.2.1, ok.2.2.2.2.2.2.2.2.1, trivial⟩) ((((left - ((v.name.length : Nat) : Int)) - ((v.desc.length : Nat) : Int)) - ((wtL (TType.enc v.type') : Nat) : Int))) (by omega) (by omega)]
  simp only [zr, zz0, zz1, zb, zi, zs, zl]
  by_cases c3 : (((left - ((v.name.length : Nat) : Int)) - ((v.desc.length : Nat) : Int)) - ((wtL (TType.enc v.type') : Nat) : Int)) < ((wtL (TValue.enc v.default') : Nat) : Int)
  · rw [szR_lt c3]
    simp only [show (-1 : Int) < 0 by omega, decide_true, if_true]
    try rw [szR_lt (by omega)]
  rw [szR_ge c3]
  have c3' : ¬ (((left - ((v.name.length : Nat) : Int)) - ((v.desc.length : Nat) : Int)) - ((wtL (TType.enc v.type') : Nat) : Int)) - ((wtL (TValue.enc v.default') : Nat) : Int) < 0 := by omega
  simp only [c3', decide_false, zf, if_false]
  rw [szS_Dir v.dirs ok.2.2.2.2.2.2.2.2.2.1 (((((left - ((v.name.length : Nat) : Int)) - ((v.desc.length : Nat) : Int)) - ((wtL (TType.enc v.type') : Nat) : Int)) - ((wtL (TValue.enc v.default') : Nat) : Int))) (by omega) (by omega)]
  simp only [zr, zz0, zz1, zb, zi, zs, zl]
  by_cases c4 : ((((left - ((v.name.length : Nat) : Int)) - ((v.desc.length : Nat) : Int)) - ((wtL (TType.enc v.type') : Nat) : Int)) - ((wtL (TValue.enc v.default') : Nat) : Int)) < ((DC.wt (.sl (v.dirs.map TDir.enc)) : Nat) : Int)
  · rw [szR_lt c4]
    simp only [show (-1 : Int) < 0 by omega, decide_true, if_true]
    try rw [szR_lt (by omega)]
  rw [szR_ge c4]
  have c4' : ¬ ((((left - ((v.name.length : Nat) : Int)) - ((v.desc.length : Nat) : Int)) - ((wtL (TType.enc v.type') : Nat) : Int)) - ((wtL (TValue.enc v.default') : Nat) : Int)) - ((DC.wt (.sl (v.dirs.map TDir.enc)) : Nat) : Int) < 0 := by omega
  simp only [c4', decide_false, zf, if_false]
  first
  | done
  | rw [show szR left (v.name.length + v.desc.length + wtL (TType.enc v.type') + wtL (TValue.enc v.default') + DC.wt (.sl (v.dirs.map TDir.enc))) = (((((left - ((v.name.length : Nat) : Int)) - ((v.desc.length : Nat) : Int)) - ((wtL (TType.enc v.type') : Nat) : Int)) - ((wtL (TValue.enc v.default') : Nat) : Int)) - ((DC.wt (.sl (v.dirs.map TDir.enc)) : Nat) : Int)) from (szR_ge (by omega)).trans (by omega)]
theorem szS_InDef' (vs : List TInDef) (hs : ∀ v ∈ vs, okL (TInDef.enc v) → ∀ left : Int, 0 ≤ left → left ≤ 1048576 → r_laws_szInDef [.s v.name, .s v.desc, .s v.type'.name, .s v.type'.wraps, .b v.has', .i v.default'.kind, .s v.default'.text, .sl (v.default'.items.map TValue.enc), .sl (v.default'.names.map S1), .sl (v.dirs.map TDir.enc), .i left] = .ret [.i (szR left (wtL (TInDef.enc v)))]) (ok : (DC.sl (vs.map TInDef.enc)).ok) (left : Int) (h0 : 0 ≤ left) (h1 : left ≤ 1048576) : r_laws_szInDefS [.sl (vs.map TInDef.enc), .i left] = .ret [.i (szR left (DC.wt (.sl (vs.map TInDef.enc))))] := by
  rw [DC.ok, zm] at ok
  obtain ⟨hl, ok⟩ := ok
  rw [eq_laws_szInDefS]
  simp only [E_laws_szInDefS, zz0, zz1, zb, zi, zs, zl]
  refine szS_all hl (fun i hi left h0 h1 => ?_) (fun left => ?_) h0 h1
  · have key := hs vs[i] (List.getElem_mem hi) (okV_mem ok _ (List.mem_map_of_mem (List.getElem_mem hi))) left h0 h1
    generalize wtL (TInDef.enc vs[i]) = w at key ⊢
    have hc1 : (i : Int) < (vs.length : Int) := by omega
    simp only [E_laws_szInDefSL1, zz0, zz1, zb, zi, zs, zl, Int.toNat_natCast, zm, map_getD hi, TInDef.enc_eq, key, zr]
    by_cases hc : left < (w : Int)
    · simp [hi, hc1, hc, szR_lt hc]
    · simp [hi, hc1, hc, szR_ge hc, show ¬ left - (w : Int) < 0 by omega, wrap_succ hi hl]
  · simp [E_laws_szInDefSL1]
theorem szS_InDef (vs : List TInDef) (ok : (DC.sl (vs.map TInDef.enc)).ok) (left : Int) (h0 : 0 ≤ left) (h1 : left ≤ 1048576) : r_laws_szInDefS [.sl (vs.map TInDef.enc), .i left] = .ret [.i (szR left (DC.wt (.sl (vs.map TInDef.enc))))] := szS_InDef' vs (fun v _ => sz_InDef v) ok left h0 h1
theorem to_InDef (v : TInDef) : wtL (TInDef.enc v) ≤ 1048576 → r_laws_toInDef [.s v.name, .s v.desc, .s v.type'.name, .s v.type'.wraps, .b v.has', .i v.default'.kind, .s v.default'.text, .sl (v.default'.items.map TValue.enc), .sl (v.default'.names.map S1), .sl (v.dirs.map TDir.enc)] = .ret (TInDef.enc v) := by
  intro hw
  rw [wsum_InDef] at hw
  rw [eq_laws_toInDef]
  simp only [E_laws_toInDef, zz0, zz1, zb, zi, zs, zl]
  rw [to_Type v.type' (by omega)]
  simp only [zr, TType.enc_eq, zz0, zz1, zb, zi, zs, zl]
  rw [to_Value v.default' (by omega)]
  simp only [zr, TValue.enc_eq, zz0, zz1, zb, zi, zs, zl]
  rw [toS_Dir v.dirs (by omega)]
  simp only [zr, zz0, zz1, zb, zi, zs, zl]
  rw [TInDef.enc_eq]
theorem toS_InDef' (vs : List TInDef) (hs : ∀ v ∈ vs, wtL (TInDef.enc v) ≤ 1048576 → r_laws_toInDef [.s v.name, .s v.desc, .s v.type'.name, .s v.type'.wraps, .b v.has', .i v.default'.kind, .s v.default'.text, .sl (v.default'.items.map TValue.enc), .sl (v.default'.names.map S1), .sl (v.dirs.map TDir.enc)] = .ret (TInDef.enc v)) (hw : DC.wt (.sl (vs.map TInDef.enc)) ≤ 1048576) : r_laws_toInDefS [.sl (vs.map TInDef.enc)] = .ret [.sl (vs.map TInDef.enc)] := by
  rw [DC.wt, zm] at hw
  have hl : vs.length ≤ 1048576 := by omega
  rw [eq_laws_toInDefS]
  simp only [E_laws_toInDefS, zz0, zz1, zb, zi, zs, zl]
  rw [if_pos ⟨by omega, by rw [zm]; exact lim_of hl, trivial, by omega, by omega⟩, Int.toNat_natCast, zm, show (0 : Int) = ((0 : Nat) : Int) from rfl, toS_loop hl (fun i hi cur h1 h2 => ?_) (fun cur => ?_)]
  · rfl
  · have key := hs vs[i] (List.getElem_mem hi) (by have := wtV_mem (List.mem_map_of_mem (f := TInDef.enc) (List.getElem_mem hi)); omega)
    have hc1 : (i : Int) < (vs.length : Int) := by omega
    simp only [E_laws_toInDefSL1, zz0, zz1, zb, zi, zs, zl, Int.toNat_natCast, zm, map_getD hi, h1, h2, TInDef.enc_eq] at key ⊢
    simp only [key, zz0, zz1, zb, zi, zs, zl, zr]
    simp [hi, hc1, wrap_succ hi (show vs.length ≤ 9223372036854775807 by omega), setRunD]
  · simp [E_laws_toInDefSL1]
theorem toS_InDef (vs : List TInDef) (hw : DC.wt (.sl (vs.map TInDef.enc)) ≤ 1048576) : r_laws_toInDefS [.sl (vs.map TInDef.enc)] = .ret [.sl (vs.map TInDef.enc)] := toS_InDef' vs (fun v _ => to_InDef v) hw
theorem eq_InDef (v : TInDef) : wtL (TInDef.enc v) ≤ 1048576 → r_laws_eqInDef [.s v.name, .s v.desc, .s v.type'.name, .s v.type'.wraps, .b v.has', .i v.default'.kind, .s v.default'.text, .sl (v.default'.items.map TValue.enc), .sl (v.default'.names.map S1), .sl (v.dirs.map TDir.enc), .s v.name, .s v.desc, .s v.type'.name, .s v.type'.wraps, .b v.has', .i v.default'.kind, .s v.default'.text, .sl (v.default'.items.map TValue.enc), .sl (v.default'.names.map S1), .sl (v.dirs.map TDir.enc)] = .ret [.b true] := by
  intro hw
  rw [wsum_InDef] at hw
  rw [eq_laws_eqInDef]
  simp only [E_laws_eqInDef, zz0, zz1, zb, zi, zs, zl, bne_self_eq_false, beq_self_eq_true, Bool.not_true, zf, if_false]
  rw [eq_Type v.type' (by omega)]
  simp only [zr, zz0, zz1, zb, zi, zs, zl, bne_self_eq_false, beq_self_eq_true, Bool.not_true, zf, if_false]
  rw [eq_Value v.default' (by omega)]
  simp only [zr, zz0, zz1, zb, zi, zs, zl, bne_self_eq_false, beq_self_eq_true, Bool.not_true, zf, if_false]
  rw [eqS_Dir v.dirs (by omega)]
  simp only [zr, zz0, zz1, zb, zi, zs, zl, bne_self_eq_false, beq_self_eq_true, Bool.not_true, zf, if_false]
theorem eqS_InDef' (vs : List TInDef) (hs : ∀ v ∈ vs, wtL (TInDef.enc v) ≤ 1048576 → r_laws_eqInDef [.s v.name, .s v.desc, .s v.type'.name, .s v.type'.wraps, .b v.has', .i v.default'.kind, .s v.default'.text, .sl (v.default'.items.map TValue.enc), .sl (v.default'.names.map S1), .sl (v.dirs.map TDir.enc), .s v.name, .s v.desc, .s v.type'.name, .s v.type'.wraps, .b v.has', .i v.default'.kind, .s v.default'.text, .sl (v.default'.items.map TValue.enc), .sl (v.default'.names.map S1), .sl (v.dirs.map TDir.enc)] = .ret [.b true]) (hw : DC.wt (.sl (vs.map TInDef.enc)) ≤ 1048576) : r_laws_eqInDefS [.sl (vs.map TInDef.enc), .sl (vs.map TInDef.enc)] = .ret [.b true] := by
  rw [DC.wt, zm] at hw
  have hl : vs.length ≤ 1048576 := by omega
  rw [eq_laws_eqInDefS]
  simp only [E_laws_eqInDefS, zz0, zz1, zb, zi, zs, zl]
  refine eqS_all (fun i hi => ?_) ?_
  · rw [zm] at hi
    have key := hs vs[i] (List.getElem_mem hi) (by have := wtV_mem (List.mem_map_of_mem (f := TInDef.enc) (List.getElem_mem hi)); omega)
    have hc1 : (i : Int) < (vs.length : Int) := by omega
    simp only [E_laws_eqInDefSL1, zz0, zz1, zb, zi, zs, zl, Int.toNat_natCast, zm, map_getD hi, TInDef.enc_eq] at key ⊢
    simp only [key, zz0, zz1, zb, zi, zs, zl, zr]
    simp [hi, hc1, wrap_succ hi (show vs.length ≤ 9223372036854775807 by omega)]
  · simp [E_laws_eqInDefSL1]
theorem eqS_InDef (vs : List TInDef) (hw : DC.wt (.sl (vs.map TInDef.enc)) ≤ 1048576) : r_laws_eqInDefS [.sl (vs.map TInDef.enc), .sl (vs.map TInDef.enc)] = .ret [.b true] := eqS_InDef' vs (fun v _ => eq_InDef v) hw
theorem wsum_FieldDef (v : TFieldDef) : wtL (TFieldDef.enc v) = v.name.length + v.desc.length + DC.wt (.sl (v.args.map TInDef.enc)) + wtL (TType.enc v.type') + DC.wt (.sl (v.dirs.map TDir.enc)) := by
  simp only [TFieldDef.enc_eq, wtL, DC.wt, TType.enc_eq]
  try omega
theorem sz_FieldDef (v : TFieldDef) : okL (TFieldDef.enc v) → ∀ left : Int, 0 ≤ left → left ≤ 1048576 → r_laws_szFieldDef [.s v.name, .s v.desc, .sl (v.args.map TInDef.enc), .s v.type'.name, .s v.type'.wraps, .sl (v.dirs.map TDir.enc), .i left] = .ret [.i (szR left (wtL (TFieldDef.enc v)))] := by
  intro ok left h0 h1
  rw [TFieldDef.enc_eq] at ok
  simp only [okL] at ok
  rw [eq_laws_szFieldDef]
  simp only [E_laws_szFieldDef, zz0, zz1, zb, zi, zs, zl]
  rw [wsum_FieldDef]
  have b0 : v.name.length ≤ 9223372036854775807 := by simpa only [DC.ok] using ok.1
  have b1 : v.desc.length ≤ 9223372036854775807 := by simpa only [DC.ok] using ok.2.1
  rw [show IntKind.i64.wrap (left - (v.name.length : Int)) = left - (v.name.length : Int) from wrap64 (by omega) (by omega)]
  by_cases c0 : left < ((v.name.length : Nat) : Int)
  · have c0' : left - ((v.name.length : Nat) : Int) < 0 := by omega
    simp only [c0', decide_true, if_true]
    try rw [szR_lt (by omega)]
  have c0' : ¬ left - ((v.name.length : Nat) : Int) < 0 := by omega
  simp only [c0', decide_false, zf, if_false]
  rw [show IntKind.i64.wrap ((left - ((v.name.length : Nat) : Int)) - (v.desc.length : Int)) = (left - ((v.name.length : Nat) : Int)) - (v.desc.length : Int) from wrap64 (by omega) (by omega)]
  by_cases c1 : (left - ((v.name.length : Nat) : Int)) < ((v.desc.length : Nat) : Int)
  · have c1' : (left - ((v.name.length : Nat) : Int)) - ((v.desc.length : Nat) : Int) < 0 := by omega
    simp only [c1', decide_true, if_true]
    try rw [szR_lt (by omega)]
  have c1' : ¬ (left - ((v.name.length : Nat) : Int)) - ((v.desc.length : Nat) : Int) < 0 := by omega
  simp only [c1', decide_false, zf, if_false]
  rw [szS_InDef v.args ok.2.2.1 (((left - ((v.name.length : Nat) : Int)) - ((v.desc.length : Nat) : Int))) (by omega) (by omega)]
  simp only [zr, zz0, zz1, zb, zi, zs, zl]
  by_cases c2 : ((left - ((v.name.length : Nat) : Int)) - ((v.desc.length : Nat) : Int)) < ((DC.wt (.sl (v.args.map TInDef.enc)) : Nat) : Int)
  · rw [szR_lt c2]
    simp only [show (-1 : Int) < 0 by omega, decide_true, if_true]
    try rw [szR_lt (by omega)]
  rw [szR_ge c2]
  have c2' : ¬ ((left - ((v.name.length : Nat) : Int)) - ((v.desc.length : Nat) : Int)) - ((DC.wt (.sl (v.args.map TInDef.enc)) : Nat) : Int) < 0 := by omega
  simp only [c2', decide_false, zf, if_false]
  rw [sz_Type v.type' (by rw [TType.enc_eq]; simp only [okL]; exact ⟨ok.2.2.2.1, ok.2.2.2.2.1, trivial⟩) ((((left - ((v.name.length : Nat) : Int)) - ((v.desc.length : Nat) : Int)) - ((DC.wt (.sl (v.args.map TInDef.enc)) : Nat) : Int))) (by omega) (by omega)]
  simp only [zr, zz0, zz1, zb, zi, zs, zl]
  by_cases c3 : (((left - ((v.name.length : Nat) : Int)) - ((v.desc.length : Nat) : Int)) - ((DC.wt (.sl (v.args.map TInDef.enc)) : Nat) : Int)) < ((wtL (TType.enc v.type') : Nat) : Int)
  · rw [szR_lt c3]
    simp only [show (-1 : Int) < 0 by omega, decide_true, if_true]
    try rw [szR_lt (by omega)]
  rw [szR_ge c3]
  have c3' : ¬ (((left - ((v.name.length : Nat) : Int)) - ((v.desc.length : Nat) : Int)) - ((DC.wt (.sl (v.args.map TInDef.enc)) : Nat) : Int)) - ((wtL (TType.enc v.type') : Nat) : Int) < 0 := by omega
  simp only [c3', decide_false, zf, if_false]
  rw [szS_Dir v.dirs ok.2.2.2.2.2.1 (((((left - ((v.name.length : Nat) : Int)) - ((v.desc.length : Nat) : Int)) - ((DC.wt (.sl (v.args.map TInDef.enc)) : Nat) : Int)) - ((wtL (TType.enc v.type') : Nat) : Int))) (by omega) (by omega)]
  simp only [zr, zz0, zz1, zb, zi, zs, zl]
  by_cases c4 : ((((left - ((v.name.length : Nat) : Int)) - ((v.desc.length : Nat) : Int)) - ((DC.wt (.sl (v.args.map TInDef.enc)) : Nat) : Int)) - ((wtL (TType.enc v.type') : Nat) : Int)) < ((DC.wt (.sl (v.dirs.map TDir.enc)) : Nat) : Int)
  · rw [szR_lt c4]
    simp only [show (-1 : Int) < 0 by omega, decide_true, if_true]
    try rw [szR_lt (by omega)]
  rw [szR_ge c4]
  have c4' : ¬ ((((left - ((v.name.length : Nat) : Int)) - ((v.desc.length : Nat) : Int)) - ((DC.wt (.sl (v.args.map TInDef.enc)) : Nat) : Int)) - ((wtL (TType.enc v.type') : Nat) : Int)) - ((DC.wt (.sl (v.dirs.map TDir.enc)) : Nat) : Int) < 0 := by omega
  simp only [c4', decide_false, zf, if_false]
  first
  | done
  | rw [show szR left (v.name.length + v.desc.length + DC.wt (.sl (v.args.map TInDef.enc)) + wtL (TType.enc v.type') + DC.wt (.sl (v.dirs.map TDir.enc))) = (((((left - ((v.name.length : Nat) : Int)) - ((v.desc.length : Nat) : Int)) - ((DC.wt (.sl (v.args.map TInDef.enc)) : Nat) : Int)) - ((wtL (TType.enc v.type') : Nat) : Int)) - ((DC.wt (.sl (v.dirs.map TDir.enc)) : Nat) : Int)) from (szR_ge (by omega)).trans (by omega)]
theorem szS_FieldDef' (vs : List TFieldDef) (hs : ∀ v ∈ vs, okL (TFieldDef.enc v) → ∀ left : Int, 0 ≤ left → left ≤ 1048576 → r_laws_szFieldDef [.s v.name, .s v.desc, .sl (v.args.map TInDef.enc), .s v.type'.name, .s v.type'.wraps, .sl (v.dirs.map TDir.enc), .i left] = .ret [.i (szR left (wtL (TFieldDef.enc v)))]) (ok : (DC.sl (vs.map TFieldDef.enc)).ok) (left : Int) (h0 : 0 ≤ left) (h1 : left ≤ 1048576) : r_laws_szFieldDefS [.sl (vs.map TFieldDef.enc), .i left] = .ret [.i (szR left (DC.wt (.sl (vs.map TFieldDef.enc))))] := by
  rw [DC.ok, zm] at ok
  obtain ⟨hl, ok⟩ := ok
  rw [eq_laws_szFieldDefS]
  simp only [E_laws_szFieldDefS, zz0, zz1, zb, zi, zs, zl]
  refine szS_all hl (fun i hi left h0 h1 => ?_) (fun left => ?_) h0 h1
  · have key := hs vs[i] (List.getElem_mem hi) (okV_mem ok _ (List.mem_map_of_mem (List.getElem_mem hi))) left h0 h1
    generalize wtL (TFieldDef.enc vs[i]) = w at key ⊢
    have hc1 : (i : Int) < (vs.length : Int) := by omega
    simp only [E_laws_szFieldDefSL1, zz0, zz1, zb, zi, zs, zl, Int.toNat_natCast, zm, map_getD hi, TFieldDef.enc_eq, key, zr]
    by_cases hc : left < (w : Int)
    · simp [hi, hc1, hc, szR_lt hc]
    · simp [hi, hc1, hc, szR_ge hc, show ¬ left - (w : Int) < 0 by omega, wrap_succ hi hl]
  · simp [E_laws_szFieldDefSL1]
theorem szS_FieldDef (vs : List TFieldDef) (ok : (DC.sl (vs.map TFieldDef.enc)).ok) (left : Int) (h0 : 0 ≤ left) (h1 : left ≤ 1048576) : r_laws_szFieldDefS [.sl (vs.map TFieldDef.enc), .i left] = .ret [.i (szR left (DC.wt (.sl (vs.map TFieldDef.enc))))] := szS_FieldDef' vs (fun v _ => sz_FieldDef v) ok left h0 h1
theorem to_FieldDef (v : TFieldDef) : wtL (TFieldDef.enc v) ≤ 1048576 → r_laws_toFieldDef [.s v.name, .s v.desc, .sl (v.args.map TInDef.enc), .s v.type'.name, .s v.type'.wraps, .sl (v.dirs.map TDir.enc)] = .ret (TFieldDef.enc v) := by
  intro hw
  rw [wsum_FieldDef] at hw
  rw [eq_laws_toFieldDef]
  simp only [E_laws_toFieldDef, zz0, zz1, zb, zi, zs, zl]
  rw [toS_InDef v.args (by omega)]
  simp only [zr, zz0, zz1, zb, zi, zs, zl]
  rw [to_Type v.type' (by omega)]
  simp only [zr, TType.enc_eq, zz0, zz1, zb, zi, zs, zl]
  rw [toS_Dir v.dirs (by omega)]
  simp only [zr, zz0, zz1, zb, zi, zs, zl]
  rw [TFieldDef.enc_eq]
theorem toS_FieldDef' (vs : List TFieldDef) (hs : ∀ v ∈ vs, wtL (TFieldDef.enc v) ≤ 1048576 → r_laws_toFieldDef [.s v.name, .s v.desc, .sl (v.args.map TInDef.enc), .s v.type'.name, .s v.type'.wraps, .sl (v.dirs.map TDir.enc)] = .ret (TFieldDef.enc v)) (hw : DC.wt (.sl (vs.map TFieldDef.enc)) ≤ 1048576) : r_laws_toFieldDefS [.sl (vs.map TFieldDef.enc)] = .ret [.sl (vs.map TFieldDef.enc)] := by
  rw [DC.wt, zm] at hw
  have hl : vs.length ≤ 1048576 := by omega
  rw [eq_laws_toFieldDefS]
  simp only [E_laws_toFieldDefS, zz0, zz1, zb, zi, zs, zl]
  rw [if_pos ⟨by omega, by rw [zm]; exact lim_of hl, trivial, by omega, by omega⟩, Int.toNat_natCast, zm, show (0 : Int) = ((0 : Nat) : Int) from rfl, toS_loop hl (fun i hi cur h1 h2 => ?_) (fun cur => ?_)]
  · rfl
  · have key := hs vs[i] (List.getElem_mem hi) (by have := wtV_mem (List.mem_map_of_mem (f := TFieldDef.enc) (List.getElem_mem hi)); omega)
    have hc1 : (i : Int) < (vs.length : Int) := by omega
    simp only [E_laws_toFieldDefSL1, zz0, zz1, zb, zi, zs, zl, Int.toNat_natCast, zm, map_getD hi, h1, h2, TFieldDef.enc_eq] at key ⊢
    simp only [key, zz0, zz1, zb, zi, zs, zl, zr]
    simp [hi, hc1, wrap_succ hi (show vs.length ≤ 9223372036854775807 by omega), setRunD]
  · simp [E_laws_toFieldDefSL1]
theorem toS_FieldDef (vs : List TFieldDef) (hw : DC.wt (.sl (vs.map TFieldDef.enc)) ≤ 1048576) : r_laws_toFieldDefS [.sl (vs.map TFieldDef.enc)] = .ret [.sl (vs.map TFieldDef.enc)] := toS_FieldDef' vs (fun v _ => to_FieldDef v) hw
theorem eq_FieldDef (v : TFieldDef) : wtL (TFieldDef.enc v) ≤ 1048576 → r_laws_eqFieldDef [.s v.name, .s v.desc, .sl (v.args.map TInDef.enc), .s v.type'.name, .s v.type'.wraps, .sl (v.dirs.map TDir.enc), .s v.name, .s v.desc, .sl (v.args.map TInDef.enc), .s v.type'.name, .s v.type'.wraps, .sl (v.dirs.map TDir.enc)] = .ret [.b true] := by
  intro hw
  rw [wsum_FieldDef] at hw
  rw [eq_laws_eqFieldDef]
  simp only [E_laws_eqFieldDef, zz0, zz1, zb, zi, zs, zl, bne_self_eq_false, beq_self_eq_true, Bool.not_true, zf, if_false]
  rw [eqS_InDef v.args (by omega)]
  simp only [zr, zz0, zz1, zb, zi, zs, zl, bne_self_eq_false, beq_self_eq_true, Bool.not_true, zf, if_false]
  rw [eq_Type v.type' (by omega)]
  simp only [zr, zz0, zz1, zb, zi, zs, zl, bne_self_eq_false, beq_self_eq_true, Bool.not_true, zf, if_false]
  rw [eqS_Dir v.dirs (by omega)]
  simp only [zr, zz0, zz1, zb, zi, zs, zl, bne_self_eq_false, beq_self_eq_true, Bool.not_true, zf, if_false]
theorem eqS_FieldDef' (vs : List TFieldDef) (hs : ∀ v ∈ vs, wtL (TFieldDef.enc v) ≤ 1048576 → r_laws_eqFieldDef [.s v.name, .s v.desc, .sl (v.args.map TInDef.enc), .s v.type'.name, .s v.type'.wraps, .sl (v.dirs.map TDir.enc), .s v.name, .s v.desc, .sl (v.args.map TInDef.enc), .s v.type'.name, .s v.type'.wraps, .sl (v.dirs.map TDir.enc)] = .ret [.b true]) (hw : DC.wt (.sl (vs.map TFieldDef.enc)) ≤ 1048576) : r_laws_eqFieldDefS [.sl (vs.map TFieldDef.enc), .sl (vs.map TFieldDef.enc)] = .ret [.b true] := by
  rw [DC.wt, zm] at hw
  have hl : vs.length ≤ 1048576 := by omega
  rw [eq_laws_eqFieldDefS]
  simp only [E_laws_eqFieldDefS, zz0, zz1, zb, zi, zs, zl]
  refine eqS_all (fun i hi => ?_) ?_
  · rw [zm] at hi
    have key := hs vs[i] (List.getElem_mem hi) (by have := wtV_mem (List.mem_map_of_mem (f := TFieldDef.enc) (List.getElem_mem hi)); omega)
    have hc1 : (i : Int) < (vs.length : Int) := by omega
    simp only [E_laws_eqFieldDefSL1, zz0, zz1, zb, zi, zs, zl, Int.toNat_natCast, zm, map_getD hi, TFieldDef.enc_eq] at key ⊢
    simp only [key, zz0, zz1, zb, zi, zs, zl, zr]
    simp [hi, hc1, wrap_succ hi (show vs.length ≤ 9223372036854775807 by omega)]
  · simp [E_laws_eqFieldDefSL1]
theorem eqS_FieldDef (vs : List TFieldDef) (hw : DC.wt (.sl (vs.map TFieldDef.enc)) ≤ 1048576) : r_laws_eqFieldDefS [.sl (vs.map TFieldDef.enc), .sl (vs.map TFieldDef.enc)] = .ret [.b true] := eqS_FieldDef' vs (fun v _ => eq_FieldDef v) hw
theorem wsum_EnumDef (v : TEnumDef) : wtL (TEnumDef.enc v) = v.name.length + v.desc.length + DC.wt (.sl (v.dirs.map TDir.enc)) := by
  simp only [TEnumDef.enc_eq, wtL, DC.wt]
  try omega
theorem sz_EnumDef (v : TEnumDef) : okL (TEnumDef.enc v) → ∀ left : Int, 0 ≤ left → left ≤ 1048576 → r_laws_szEnumDef [.s v.name, .s v.desc, .sl (v.dirs.map TDir.enc), .i left] = .ret [.i (szR left (wtL (TEnumDef.enc v)))] := by
  intro ok left h0 h1
  rw [TEnumDef.enc_eq] at ok
  simp only [okL] at ok
  rw [eq_laws_szEnumDef]
  simp only [E_laws_szEnumDef, zz0, zz1, zb, zi, zs, zl]
  rw [wsum_EnumDef]
  have b0 : v.name.length ≤ 9223372036854775807 := by simpa only [DC.ok] using ok.1
  have b1 : v.desc.length ≤ 9223372036854775807 := by simpa only [DC.ok] using ok.2.1
  rw [show IntKind.i64.wrap (left - (v.name.length : Int)) = left - (v.name.length : Int) from wrap64 (by omega) (by omega)]
  by_cases c0 : left < ((v.name.length : Nat) : Int)
  · have c0' : left - ((v.name.length : Nat) : Int) < 0 := by omega
    simp only [c0', decide_true, if_true]
    try rw [szR_lt (by omega)]
  have c0' : ¬ left - ((v.name.length : Nat) : Int) < 0 := by omega
  simp only [c0', decide_false, zf, if_false]
  rw [show IntKind.i64.wrap ((left - ((v.name.length : Nat) : Int)) - (v.desc.length : Int)) = (left - ((v.name.length : Nat) : Int)) - (v.desc.length : Int) from wrap64 (by omega) (by omega)]
  by_cases c1 : (left - ((v.name.length : Nat) : Int)) < ((v.desc.length : Nat) : Int)
  · have c1' : (left - ((v.name.length : Nat) : Int)) - ((v.desc.length : Nat) : Int) < 0 := by omega
    simp only [c1', decide_true, if_true]
    try rw [szR_lt (by omega)]
  have c1' : ¬ (left - ((v.name.length : Nat) : Int)) - ((v.desc.length : Nat) : Int) < 0 := by omega
  simp only [c1', decide_false, zf, if_false]
  rw [szS_Dir v.dirs ok.2.2.1 (((left - ((v.name.length : Nat) : Int)) - ((v.desc.length : Nat) : Int))) (by omega) (by omega)]
  simp only [zr, zz0, zz1, zb, zi, zs, zl]
  by_cases c2 : ((left - ((v.name.length : Nat) : Int)) - ((v.desc.length : Nat) : Int)) < ((DC.wt (.sl (v.dirs.map TDir.enc)) : Nat) : Int)
  · rw [szR_lt c2]
    simp only [show (-1 : Int) < 0 by omega, decide_true, if_true]
    try rw [szR_lt (by omega)]
  rw [szR_ge c2]
  have c2' : ¬ ((left - ((v.name.length : Nat) : Int)) - ((v.desc.length : Nat) : Int)) - ((DC.wt (.sl (v.dirs.map TDir.enc)) : Nat) : Int) < 0 := by omega
  simp only [c2', decide_false, zf, if_false]
  first
  | done
  | rw [show szR left (v.name.length + v.desc.length + DC.wt (.sl (v.dirs.map TDir.enc))) = (((left - ((v.name.length : Nat) : Int)) - ((v.desc.length : Nat) : Int)) - ((DC.wt (.sl (v.dirs.map TDir.enc)) : Nat) : Int)) from (szR_ge (by omega)).trans (by omega)]
theorem szS_EnumDef' (vs : List TEnumDef) (hs : ∀ v ∈ vs, okL (TEnumDef.enc v) → ∀ left : Int, 0 ≤ left → left ≤ 1048576 → r_laws_szEnumDef [.s v.name, .s v.desc, .sl (v.dirs.map TDir.enc), .i left] = .ret [.i (szR left (wtL (TEnumDef.enc v)))]) (ok : (DC.sl (vs.map TEnumDef.enc)).ok) (left : Int) (h0 : 0 ≤ left) (h1 : left ≤ 1048576) : r_laws_szEnumDefS [.sl (vs.map TEnumDef.enc), .i left] = .ret [.i (szR left (DC.wt (.sl (vs.map TEnumDef.enc))))] := by
  rw [DC.ok, zm] at ok
  obtain ⟨hl, ok⟩ := ok
  rw [eq_laws_szEnumDefS]
  simp only [E_laws_szEnumDefS, zz0, zz1, zb, zi, zs, zl]
  refine szS_all hl (fun i hi left h0 h1 => ?_) (fun left => ?_) h0 h1
  · have key := hs vs[i] (List.getElem_mem hi) (okV_mem ok _ (List.mem_map_of_mem (List.getElem_mem hi))) left h0 h1
    generalize wtL (TEnumDef.enc vs[i]) = w at key ⊢
    have hc1 : (i : Int) < (vs.length : Int) := by omega
    simp only [E_laws_szEnumDefSL1, zz0, zz1, zb, zi, zs, zl, Int.toNat_natCast, zm, map_getD hi, TEnumDef.enc_eq, key, zr]
    by_cases hc : left < (w : Int)
    · simp [hi, hc1, hc, szR_lt hc]
    · simp [hi, hc1, hc, szR_ge hc, show ¬ left - (w : Int) < 0 by omega, wrap_succ hi hl]
  · simp [E_laws_szEnumDefSL1]
theorem szS_EnumDef (vs : List TEnumDef) (ok : (DC.sl (vs.map TEnumDef.enc)).ok) (left : Int) (h0 : 0 ≤ left) (h1 : left ≤ 1048576) : r_laws_szEnumDefS [.sl (vs.map TEnumDef.enc), .i left] = .ret [.i (szR left (DC.wt (.sl (vs.map TEnumDef.enc))))] := szS_EnumDef' vs (fun v _ => sz_EnumDef v) ok left h0 h1
theorem to_EnumDef (v : TEnumDef) : wtL (TEnumDef.enc v) ≤ 1048576 → r_laws_toEnumDef [.s v.name, .s v.desc, .sl (v.dirs.map TDir.enc)] = .ret (TEnumDef.enc v) := by
  intro hw
  rw [wsum_EnumDef] at hw
  rw [eq_laws_toEnumDef]
  simp only [E_laws_toEnumDef, zz0, zz1, zb, zi, zs, zl]
  rw [toS_Dir v.dirs (by omega)]
  simp only [zr, zz0, zz1, zb, zi, zs, zl]
  rw [TEnumDef.enc_eq]
theorem toS_EnumDef' (vs : List TEnumDef) (hs : ∀ v ∈ vs, wtL (TEnumDef.enc v) ≤ 1048576 → r_laws_toEnumDef [.s v.name, .s v.desc, .sl (v.dirs.map TDir.enc)] = .ret (TEnumDef.enc v)) (hw : DC.wt (.sl (vs.map TEnumDef.enc)) ≤ 1048576) : r_laws_toEnumDefS [.sl (vs.map TEnumDef.enc)] = .ret [.sl (vs.map TEnumDef.enc)] := by
  rw [DC.wt, zm] at hw
  have hl : vs.length ≤ 1048576 := by omega
  rw [eq_laws_toEnumDefS]
  simp only [E_laws_toEnumDefS, zz0, zz1, zb, zi, zs, zl]
  rw [if_pos ⟨by omega, by rw [zm]; exact lim_of hl, trivial, by omega, by omega⟩, Int.toNat_natCast, zm, show (0 : Int) = ((0 : Nat) : Int) from rfl, toS_loop hl (fun i hi cur h1 h2 => ?_) (fun cur => ?_)]
  · rfl
  · have key := hs vs[i] (List.getElem_mem hi) (by have := wtV_mem (List.mem_map_of_mem (f := TEnumDef.enc) (List.getElem_mem hi)); omega)
    have hc1 : (i : Int) < (vs.length : Int) := by omega
    simp only [E_laws_toEnumDefSL1, zz0, zz1, zb, zi, zs, zl, Int.toNat_natCast, zm, map_getD hi, h1, h2, TEnumDef.enc_eq] at key ⊢
    simp only [key, zz0, zz1, zb, zi, zs, zl, zr]
    simp [hi, hc1, wrap_succ hi (show vs.length ≤ 9223372036854775807 by omega), setRunD]
  · simp [E_laws_toEnumDefSL1]
theorem toS_EnumDef (vs : List TEnumDef) (hw : DC.wt (.sl (vs.map TEnumDef.enc)) ≤ 1048576) : r_laws_toEnumDefS [.sl (vs.map TEnumDef.enc)] = .ret [.sl (vs.map TEnumDef.enc)] := toS_EnumDef' vs (fun v _ => to_EnumDef v) hw
theorem eq_EnumDef (v : TEnumDef) : wtL (TEnumDef.enc v) ≤ 1048576 → r_laws_eqEnumDef [.s v.name, .s v.desc, .sl (v.dirs.map TDir.enc), .s v.name, .s v.desc, .sl (v.dirs.map TDir.enc)] = .ret [.b true] := by
  intro hw
  rw [wsum_EnumDef] at hw
  rw [eq_laws_eqEnumDef]
  simp only [E_laws_eqEnumDef, zz0, zz1, zb, zi, zs, zl, bne_self_eq_false, beq_self_eq_true, Bool.not_true, zf, if_false]
  rw [eqS_Dir v.dirs (by omega)]
  simp only [zr, zz0, zz1, zb, zi, zs, zl, bne_self_eq_false, beq_self_eq_true, Bool.not_true, zf, if_false]
theorem eqS_EnumDef' (vs : List TEnumDef) (hs : ∀ v ∈ vs, wtL (TEnumDef.enc v) ≤ 1048576 → r_laws_eqEnumDef [.s v.name, .s v.desc, .sl (v.dirs.map TDir.enc), .s v.name, .s v.desc, .sl (v.dirs.map TDir.enc)] = .ret [.b true]) (hw : DC.wt (.sl (vs.map TEnumDef.enc)) ≤ 1048576) : r_laws_eqEnumDefS [.sl (vs.map TEnumDef.enc), .sl (vs.map TEnumDef.enc)] = .ret [.b true] := by
  rw [DC.wt, zm] at hw
  have hl : vs.length ≤ 1048576 := by omega
  rw [eq_laws_eqEnumDefS]
  simp only [E_laws_eqEnumDefS, zz0, zz1, zb, zi, zs, zl]
  refine eqS_all (fun i hi => ?_) ?_
  · rw [zm] at hi
    have key := hs vs[i] (List.getElem_mem hi) (by have := wtV_mem (List.mem_map_of_mem (f := TEnumDef.enc) (List.getElem_mem hi)); omega)
    have hc1 : (i : Int) < (vs.length : Int) := by omega
    simp only [E_laws_eqEnumDefSL1, zz0, zz1, zb, zi, zs, zl, Int.toNat_natCast, zm, map_getD hi, TEnumDef.enc_eq] at key ⊢
    simp only [key, zz0, zz1, zb, zi, zs, zl, zr]
    simp [hi, hc1, wrap_succ hi (show vs.length ≤ 9223372036854775807 by omega)]
  · simp [E_laws_eqEnumDefSL1]
theorem eqS_EnumDef (vs : List TEnumDef) (hw : DC.wt (.sl (vs.map TEnumDef.enc)) ≤ 1048576) : r_laws_eqEnumDefS [.sl (vs.map TEnumDef.enc), .sl (vs.map TEnumDef.enc)] = .ret [.b true] := eqS_EnumDef' vs (fun v _ => eq_EnumDef v) hw
theorem wsum_Root (v : TRoot) : wtL (TRoot.enc v) = v.type'.length := by
  simp only [TRoot.enc_eq, wtL, DC.wt]
  try omega
theorem sz_Root (v : TRoot) : okL (TRoot.enc v) → ∀ left : Int, 0 ≤ left → left ≤ 1048576 → r_laws_szRoot [.i v.kind, .s v.type', .i left] = .ret [.i (szR left (wtL (TRoot.enc v)))] := by
  intro ok left h0 h1
  rw [TRoot.enc_eq] at ok
  simp only [okL] at ok
  rw [eq_laws_szRoot]
  simp only [E_laws_szRoot, zz0, zz1, zb, zi, zs, zl]
  rw [wsum_Root]
  have b0 : v.type'.length ≤ 9223372036854775807 := by simpa only [DC.ok] using ok.2.1
  rw [show IntKind.i64.wrap (left - (v.type'.length : Int)) = left - (v.type'.length : Int) from wrap64 (by omega) (by omega)]
  by_cases c0 : left < ((v.type'.length : Nat) : Int)
  · have c0' : left - ((v.type'.length : Nat) : Int) < 0 := by omega
    simp only [c0', decide_true, if_true]
    try rw [szR_lt (by omega)]
  have c0' : ¬ left - ((v.type'.length : Nat) : Int) < 0 := by omega
  simp only [c0', decide_false, zf, if_false]
  first
  | done
  | rw [show szR left (v.type'.length) = (left - ((v.type'.length : Nat) : Int)) from (szR_ge (by omega)).trans (by omega)]
theorem szS_Root' (vs : List TRoot) (hs : ∀ v ∈ vs, okL (TRoot.enc v) → ∀ left : Int, 0 ≤ left → left ≤ 1048576 → r_laws_szRoot [.i v.kind, .s v.type', .i left] = .ret [.i (szR left (wtL (TRoot.enc v)))]) (ok : (DC.sl (vs.map TRoot.enc)).ok) (left : Int) (h0 : 0 ≤ left) (h1 : left ≤ 1048576) : r_laws_szRootS [.sl (vs.map TRoot.enc), .i left] = .ret [.i (szR left (DC.wt (.sl (vs.map TRoot.enc))))] := by
  rw [DC.ok, zm] at ok
  obtain ⟨hl, ok⟩ := ok
  rw [eq_laws_szRootS]
  simp only [E_laws_szRootS, zz0, zz1, zb, zi, zs, zl]
  refine szS_all hl (fun i hi left h0 h1 => ?_) (fun left => ?_) h0 h1
  · have key := hs vs[i] (List.getElem_mem hi) (okV_mem ok _ (List.mem_map_of_mem (List.getElem_mem hi))) left h0 h1
    generalize wtL (TRoot.enc vs[i]) = w at key ⊢
    have hc1 : (i : Int) < (vs.length : Int) := by omega
    simp only [E_laws_szRootSL1, zz0, zz1, zb, zi, zs, zl, Int.toNat_natCast, zm, map_getD hi, TRoot.enc_eq, key, zr]
    by_cases hc : left < (w : Int)
    · simp [hi, hc1, hc, szR_lt hc]
    · simp [hi, hc1, hc, szR_ge hc, show ¬ left - (w : Int) < 0 by omega, wrap_succ hi hl]
  · simp [E_laws_szRootSL1]
theorem szS_Root (vs : List TRoot) (ok : (DC.sl (vs.map TRoot.enc)).ok) (left : Int) (h0 : 0 ≤ left) (h1 : left ≤ 1048576) : r_laws_szRootS [.sl (vs.map TRoot.enc), .i left] = .ret [.i (szR left (DC.wt (.sl (vs.map TRoot.enc))))] := szS_Root' vs (fun v _ => sz_Root v) ok left h0 h1
theorem to_Root (v : TRoot) : wtL (TRoot.enc v) ≤ 1048576 → r_laws_toRoot [.i v.kind, .s v.type'] = .ret (TRoot.enc v) := by
  intro hw
  rw [wsum_Root] at hw
  rw [eq_laws_toRoot]
  simp only [E_laws_toRoot, zz0, zz1, zb, zi, zs, zl]
  rw [TRoot.enc_eq]
theorem toS_Root' (vs : List TRoot) (hs : ∀ v ∈ vs, wtL (TRoot.enc v) ≤ 1048576 → r_laws_toRoot [.i v.kind, .s v.type'] = .ret (TRoot.enc v)) (hw : DC.wt (.sl (vs.map TRoot.enc)) ≤ 1048576) : r_laws_toRootS [.sl (vs.map TRoot.enc)] = .ret [.sl (vs.map TRoot.enc)] := by
  rw [DC.wt, zm] at hw
  have hl : vs.length ≤ 1048576 := by omega
  rw [eq_laws_toRootS]
  simp only [E_laws_toRootS, zz0, zz1, zb, zi, zs, zl]
  rw [if_pos ⟨by omega, by rw [zm]; exact lim_of hl, trivial, by omega, by omega⟩, Int.toNat_natCast, zm, show (0 : Int) = ((0 : Nat) : Int) from rfl, toS_loop hl (fun i hi cur h1 h2 => ?_) (fun cur => ?_)]
  · rfl
  · have key := hs vs[i] (List.getElem_mem hi) (by have := wtV_mem (List.mem_map_of_mem (f := TRoot.enc) (List.getElem_mem hi)); omega)
    have hc1 : (i : Int) < (vs.length : Int) := by omega
    simp only [E_laws_toRootSL1, zz0, zz1, zb, zi, zs, zl, Int.toNat_natCast, zm, map_getD hi, h1, h2, TRoot.enc_eq] at key ⊢
    simp only [key, zz0, zz1, zb, zi, zs, zl, zr]
    simp [hi, hc1, wrap_succ hi (show vs.length ≤ 9223372036854775807 by omega), setRunD]
  · simp [E_laws_toRootSL1]
theorem toS_Root (vs : List TRoot) (hw : DC.wt (.sl (vs.map TRoot.enc)) ≤ 1048576) : r_laws_toRootS [.sl (vs.map TRoot.enc)] = .ret [.sl (vs.map TRoot.enc)] := toS_Root' vs (fun v _ => to_Root v) hw
theorem eq_Root (v : TRoot) : wtL (TRoot.enc v) ≤ 1048576 → r_laws_eqRoot [.i v.kind, .s v.type', .i v.kind, .s v.type'] = .ret [.b true] := by
  intro hw
  rw [wsum_Root] at hw
  rw [eq_laws_eqRoot]
  simp only [E_laws_eqRoot, zz0, zz1, zb, zi, zs, zl, bne_self_eq_false, beq_self_eq_true, Bool.not_true, zf, if_false]
theorem eqS_Root' (vs : List TRoot) (hs : ∀ v ∈ vs, wtL (TRoot.enc v) ≤ 1048576 → r_laws_eqRoot [.i v.kind, .s v.type', .i v.kind, .s v.type'] = .ret [.b true]) (hw : DC.wt (.sl (vs.map TRoot.enc)) ≤ 1048576) : r_laws_eqRootS [.sl (vs.map TRoot.enc), .sl (vs.map TRoot.enc)] = .ret [.b true] := by
  rw [DC.wt, zm] at hw
  have hl : vs.length ≤ 1048576 := by omega
  rw [eq_laws_eqRootS]
  simp only [E_laws_eqRootS, zz0, zz1, zb, zi, zs, zl]
  refine eqS_all (fun i hi => ?_) ?_
  · rw [zm] at hi
    have key := hs vs[i] (List.getElem_mem hi) (by have := wtV_mem (List.mem_map_of_mem (f := TRoot.enc) (List.getElem_mem hi)); omega)
    have hc1 : (i : Int) < (vs.length : Int) := by omega
    simp only [E_laws_eqRootSL1, zz0, zz1, zb, zi, zs, zl, Int.toNat_natCast, zm, map_getD hi, TRoot.enc_eq] at key ⊢
    simp only [key, zz0, zz1, zb, zi, zs, zl, zr]
    simp [hi, hc1, wrap_succ hi (show vs.length ≤ 9223372036854775807 by omega)]
  · simp [E_laws_eqRootSL1]
theorem eqS_Root (vs : List TRoot) (hw : DC.wt (.sl (vs.map TRoot.enc)) ≤ 1048576) : r_laws_eqRootS [.sl (vs.map TRoot.enc), .sl (vs.map TRoot.enc)] = .ret [.b true] := eqS_Root' vs (fun v _ => eq_Root v) hw
theorem wsum_Def (v : TDef) : wtL (TDef.enc v) = v.desc.length + v.name.length + DC.wt (.sl (v.faces.map S1)) + DC.wt (.sl (v.fields.map TFieldDef.enc)) + DC.wt (.sl (v.inputs.map TInDef.enc)) + DC.wt (.sl (v.values.map TEnumDef.enc)) + DC.wt (.sl (v.roots.map TRoot.enc)) + DC.wt (.sl (v.dirs.map TDir.enc)) := by
  simp only [TDef.enc_eq, wtL, DC.wt]
  try omega
theorem sz_Def (v : TDef) : okL (TDef.enc v) → ∀ left : Int, 0 ≤ left → left ≤ 1048576 → r_laws_szDef [.i v.kind, .b v.ext, .s v.desc, .s v.name, .sl (v.faces.map S1), .sl (v.fields.map TFieldDef.enc), .sl (v.inputs.map TInDef.enc), .sl (v.values.map TEnumDef.enc), .sl (v.roots.map TRoot.enc), .b v.repeat', .sl (v.dirs.map TDir.enc), .i left] = .ret [.i (szR left (wtL (TDef.enc v)))] := by
  intro ok left h0 h1
  rw [TDef.enc_eq] at ok
  simp only [okL] at ok
  rw [eq_laws_szDef]
  simp only [E_laws_szDef, zz0, zz1, zb, zi, zs, zl]
  rw [wsum_Def]
  have b0 : v.desc.length ≤ 9223372036854775807 := by simpa only [DC.ok] using ok.2.2.1
  have b1 : v.name.length ≤ 9223372036854775807 := by simpa only [DC.ok] using ok.2.2.2.1
  rw [show IntKind.i64.wrap (left - (v.desc.length : Int)) = left - (v.desc.length : Int) from wrap64 (by omega) (by omega)]
  by_cases c0 : left < ((v.desc.length : Nat) : Int)
  · have c0' : left - ((v.desc.length : Nat) : Int) < 0 := by omega
    simp only [c0', decide_true, if_true]
    try rw [szR_lt (by omega)]
  have c0' : ¬ left - ((v.desc.length : Nat) : Int) < 0 := by omega
  simp only [c0', decide_false, zf, if_false]
  rw [show IntKind.i64.wrap ((left - ((v.desc.length : Nat) : Int)) - (v.name.length : Int)) = (left - ((v.desc.length : Nat) : Int)) - (v.name.length : Int) from wrap64 (by omega) (by omega)]
  by_cases c1 : (left - ((v.desc.length : Nat) : Int)) < ((v.name.length : Nat) : Int)
  · have c1' : (left - ((v.desc.length : Nat) : Int)) - ((v.name.length : Nat) : Int) < 0 := by omega
    simp only [c1', decide_true, if_true]
    try rw [szR_lt (by omega)]
  have c1' : ¬ (left - ((v.desc.length : Nat) : Int)) - ((v.name.length : Nat) : Int) < 0 := by omega
  simp only [c1', decide_false, zf, if_false]
  rw [szS_String v.faces ok.2.2.2.2.1 (((left - ((v.desc.length : Nat) : Int)) - ((v.name.length : Nat) : Int))) (by omega) (by omega)]
  simp only [zr, zz0, zz1, zb, zi, zs, zl]
  by_cases c2 : ((left - ((v.desc.length : Nat) : Int)) - ((v.name.length : Nat) : Int)) < ((DC.wt (.sl (v.faces.map S1)) : Nat) : Int)
  · rw [szR_lt c2]
    simp only [show (-1 : Int) < 0 by omega, decide_true, if_true]
    try rw [szR_lt (by omega)]
  rw [szR_ge c2]
  have c2' : ¬ ((left - ((v.desc.length : Nat) : Int)) - ((v.name.length : Nat) : Int)) - ((DC.wt (.sl (v.faces.map S1)) : Nat) : Int) < 0 := by omega
  simp only [c2', decide_false, zf, if_false]
  rw [szS_FieldDef v.fields ok.2.2.2.2.2.1 ((((left - ((v.desc.length : Nat) : Int)) - ((v.name.length : Nat) : Int)) - ((DC.wt (.sl (v.faces.map S1)) : Nat) : Int))) (by omega) (by omega)]
  simp only [zr, zz0, zz1, zb, zi, zs, zl]
  by_cases c3 : (((left - ((v.desc.length : Nat) : Int)) - ((v.name.length : Nat) : Int)) - ((DC.wt (.sl (v.faces.map S1)) : Nat) : Int)) < ((DC.wt (.sl (v.fields.map TFieldDef.enc)) : Nat) : Int)
  · rw [szR_lt c3]
    simp only [show (-1 : Int) < 0 by omega, decide_true, if_true]
    try rw [szR_lt (by omega)]
  rw [szR_ge c3]
  have c3' : ¬ (((left - ((v.desc.length : Nat) : Int)) - ((v.name.length : Nat) : Int)) - ((DC.wt (.sl (v.faces.map S1)) : Nat) : Int)) - ((DC.wt (.sl (v.fields.map TFieldDef.enc)) : Nat) : Int) < 0 := by omega
  simp only [c3', decide_false, zf, if_false]
  rw [szS_InDef v.inputs ok.2.2.2.2.2.2.1 (((((left - ((v.desc.length : Nat) : Int)) - ((v.name.length : Nat) : Int)) - ((DC.wt (.sl (v.faces.map S1)) : Nat) : Int)) - ((DC.wt (.sl (v.fields.map TFieldDef.enc)) : Nat) : Int))) (by omega) (by omega)]
  simp only [zr, zz0, zz1, zb, zi, zs, zl]
  by_cases c4 : ((((left - ((v.desc.length : Nat) : Int)) - ((v.name.length : Nat) : Int)) - ((DC.wt (.sl (v.faces.map S1)) : Nat) : Int)) - ((DC.wt (.sl (v.fields.map TFieldDef.enc)) : Nat) : Int)) < ((DC.wt (.sl (v.inputs.map TInDef.enc)) : Nat) : Int)
  · rw [szR_lt c4]
    simp only [show (-1 : Int) < 0 by omega, decide_true, if_true]
    try rw [szR_lt (by omega)]
  rw [szR_ge c4]
  have c4' : ¬ ((((left - ((v.desc.length : Nat) : Int)) - ((v.name.length : Nat) : Int)) - ((DC.wt (.sl (v.faces.map S1)) : Nat) : Int)) - ((DC.wt (.sl (v.fields.map TFieldDef.enc)) : Nat) : Int)) - ((DC.wt (.sl (v.inputs.map TInDef.enc)) : Nat) : Int) < 0 := by omega
  simp only [c4', decide_false, zf, if_false]
  rw [szS_EnumDef v.values ok.2.2.2.2.2.2.2.1 ((((((left - ((v.desc.length : Nat) : Int)) - ((v.name.length : Nat) : Int)) - ((DC.wt (.sl (v.faces.map S1)) : Nat) : Int)) - ((DC.wt (.sl (v.fields.map TFieldDef.enc)) : Nat) : Int)) - ((DC.wt (.sl (v.inputs.map TInDef.enc)) : Nat) : Int))) (by omega) (by omega)]
  simp only [zr, zz0, zz1, zb, zi, zs, zl]
  by_cases c5 : (((((left - ((v.desc.length : Nat) : Int)) - ((v.name.length : Nat) : Int)) - ((DC.wt (.sl (v.faces.map S1)) : Nat) : Int)) - ((DC.wt (.sl (v.fields.map TFieldDef.enc)) : Nat) : Int)) - ((DC.wt (.sl (v.inputs.map TInDef.enc)) : Nat) : Int)) < ((DC.wt (.sl (v.values.map TEnumDef.enc)) : Nat) : Int)
  · rw [szR_lt c5]
    simp only [show (-1 : Int) < 0 by omega, decide_true, if_true]
    try rw [szR_lt (by omega)]
  rw [szR_ge c5]
  have c5' : ¬ (((((left - ((v.desc.length : Nat) : Int)) - ((v.name.length : Nat) : Int)) - ((DC.wt (.sl (v.faces.map S1)) : Nat) : Int)) - ((DC.wt (.sl (v.fields.map TFieldDef.enc)) : Nat) : Int)) - ((DC.wt (.sl (v.inputs.map TInDef.enc)) : Nat) : Int)) - ((DC.wt (.sl (v.values.map TEnumDef.enc)) : Nat) : Int) < 0 := by omega
  simp only [c5', decide_false, zf, if_false]
  rw [szS_Root v.roots ok.2.2.2.2.2.2.2.2.1 (((((((left - ((v.desc.length : Nat) : Int)) - ((v.name.length : Nat) : Int)) - ((DC.wt (.sl (v.faces.map S1)) : Nat) : Int)) - ((DC.wt (.sl (v.fields.map TFieldDef.enc)) : Nat) : Int)) - ((DC.wt (.sl (v.inputs.map TInDef.enc)) : Nat) : Int)) - ((DC.wt (.sl (v.values.map TEnumDef.enc)) : Nat) : Int))) (by omega) (by omega)]
  simp only [zr, zz0, zz1, zb, zi, zs, zl]
  by_cases c6 : ((((((left - ((v.desc.length : Nat) : Int)) - ((v.name.length : Nat) : Int)) - ((DC.wt (.sl (v.faces.map S1)) : Nat) : Int)) - ((DC.wt (.sl (v.fields.map TFieldDef.enc)) : Nat) : Int)) - ((DC.wt (.sl (v.inputs.map TInDef.enc)) : Nat) : Int)) - ((DC.wt (.sl (v.values.map TEnumDef.enc)) : Nat) : Int)) < ((DC.wt (.sl (v.roots.map TRoot.enc)) : Nat) : Int)
  · rw [szR_lt c6]
    simp only [show (-1 : Int) < 0 by omega, decide_true, if_true]
    try rw [szR_lt (by omega)]
  rw [szR_ge c6]
  have c6' : ¬ ((((((left - ((v.desc.length : Nat) : Int)) - ((v.name.length : Nat) : Int)) - ((DC.wt (.sl (v.faces.map S1)) : Nat) : Int)) - ((DC.wt (.sl (v.fields.map TFieldDef.enc)) : Nat) : Int)) - ((DC.wt (.sl (v.inputs.map TInDef.enc)) : Nat) : Int)) - ((DC.wt (.sl (v.values.map TEnumDef.enc)) : Nat) : Int)) - ((DC.wt (.sl (v.roots.map TRoot.enc)) : Nat) : Int) < 0 := by omega
  simp only [c6', decide_false, zf, if_false]
  rw [szS_Dir v.dirs ok.2.2.2.2.2.2.2.2.2.2.1 ((((((((left - ((v.desc.length : Nat) : Int)) - ((v.name.length : Nat) : Int)) - ((DC.wt (.sl (v.faces.map S1)) : Nat) : Int)) - ((DC.wt (.sl (v.fields.map TFieldDef.enc)) : Nat) : Int)) - ((DC.wt (.sl (v.inputs.map TInDef.enc)) : Nat) : Int)) - ((DC.wt (.sl (v.values.map TEnumDef.enc)) : Nat) : Int)) - ((DC.wt (.sl (v.roots.map TRoot.enc)) : Nat) : Int))) (by omega) (by omega)]
  simp only [zr, zz0, zz1, zb, zi, zs, zl]
  by_cases c7 : (((((((left - ((v.desc.length : Nat) : Int)) - ((v.name.length : Nat) : Int)) - ((DC.wt (.sl (v.faces.map S1)) : Nat) : Int)) - ((DC.wt (.sl (v.fields.map TFieldDef.enc)) : Nat) : Int)) - ((DC.wt (.sl (v.inputs.map TInDef.enc)) : Nat) : Int)) - ((DC.wt (.sl (v.values.map TEnumDef.enc)) : Nat) : Int)) - ((DC.wt (.sl (v.roots.map TRoot.enc)) : Nat) : Int)) < ((DC.wt (.sl (v.dirs.map TDir.enc)) : Nat) : Int)
  · rw [szR_lt c7]
    simp only [show (-1 : Int) < 0 by omega, decide_true, if_true]
    try rw [szR_lt (by omega)]
  rw [szR_ge c7]
  have c7' : ¬ (((((((left - ((v.desc.length : Nat) : Int)) - ((v.name.length : Nat) : Int)) - ((DC.wt (.sl (v.faces.map S1)) : Nat) : Int)) - ((DC.wt (.sl (v.fields.map TFieldDef.enc)) : Nat) : Int)) - ((DC.wt (.sl (v.inputs.map TInDef.enc)) : Nat) : Int)) - ((DC.wt (.sl (v.values.map TEnumDef.enc)) : Nat) : Int)) - ((DC.wt (.sl (v.roots.map TRoot.enc)) : Nat) : Int)) - ((DC.wt (.sl (v.dirs.map TDir.enc)) : Nat) : Int) < 0 := by omega
  simp only [c7', decide_false, zf, if_false]
  first
  | done
  | rw [show szR left (v.desc.length + v.name.length + DC.wt (.sl (v.faces.map S1)) + DC.wt (.sl (v.fields.map TFieldDef.enc)) + DC.wt (.sl (v.inputs.map TInDef.enc)) + DC.wt (.sl (v.values.map TEnumDef.enc)) + DC.wt (.sl (v.roots.map TRoot.enc)) + DC.wt (.sl (v.dirs.map TDir.enc))) = ((((((((left - ((v.desc.length : Nat) : Int)) - ((v.name.length : Nat) : Int)) - ((DC.wt (.sl (v.faces.map S1)) : Nat) : Int)) - ((DC.wt (.sl (v.fields.map TFieldDef.enc)) : Nat) : Int)) - ((DC.wt (.sl (v.inputs.map TInDef.enc)) : Nat) : Int)) - ((DC.wt (.sl (v.values.map TEnumDef.enc)) : Nat) : Int)) - ((DC.wt (.sl (v.roots.map TRoot.enc)) : Nat) : Int)) - ((DC.wt (.sl (v.dirs.map TDir.enc)) : Nat) : Int)) from (szR_ge (by omega)).trans (by omega)]
theorem to_Def (v : TDef) : wtL (TDef.enc v) ≤ 1048576 → r_laws_toDef [.i v.kind, .b v.ext, .s v.desc, .s v.name, .sl (v.faces.map S1), .sl (v.fields.map TFieldDef.enc), .sl (v.inputs.map TInDef.enc), .sl (v.values.map TEnumDef.enc), .sl (v.roots.map TRoot.enc), .b v.repeat', .sl (v.dirs.map TDir.enc)] = .ret (TDef.enc v) := by
  intro hw
  rw [wsum_Def] at hw
  rw [eq_laws_toDef]
  simp only [E_laws_toDef, zz0, zz1, zb, zi, zs, zl]
  rw [toS_String v.faces (by have h := hw; simp only [DC.wt, zm] at h; omega)]
  simp only [zr, zz0, zz1, zb, zi, zs, zl]
  rw [toS_FieldDef v.fields (by omega)]
  simp only [zr, zz0, zz1, zb, zi, zs, zl]
  rw [toS_InDef v.inputs (by omega)]
  simp only [zr, zz0, zz1, zb, zi, zs, zl]
  rw [toS_EnumDef v.values (by omega)]
  simp only [zr, zz0, zz1, zb, zi, zs, zl]
  rw [toS_Root v.roots (by omega)]
  simp only [zr, zz0, zz1, zb, zi, zs, zl]
  rw [toS_Dir v.dirs (by omega)]
  simp only [zr, zz0, zz1, zb, zi, zs, zl]
  rw [TDef.enc_eq]
theorem eq_Def (v : TDef) : wtL (TDef.enc v) ≤ 1048576 → r_laws_eqDef [.i v.kind, .b v.ext, .s v.desc, .s v.name, .sl (v.faces.map S1), .sl (v.fields.map TFieldDef.enc), .sl (v.inputs.map TInDef.enc), .sl (v.values.map TEnumDef.enc), .sl (v.roots.map TRoot.enc), .b v.repeat', .sl (v.dirs.map TDir.enc), .i v.kind, .b v.ext, .s v.desc, .s v.name, .sl (v.faces.map S1), .sl (v.fields.map TFieldDef.enc), .sl (v.inputs.map TInDef.enc), .sl (v.values.map TEnumDef.enc), .sl (v.roots.map TRoot.enc), .b v.repeat', .sl (v.dirs.map TDir.enc)] = .ret [.b true] := by
  intro hw
  rw [wsum_Def] at hw
  rw [eq_laws_eqDef]
  simp only [E_laws_eqDef, zz0, zz1, zb, zi, zs, zl, bne_self_eq_false, beq_self_eq_true, Bool.not_true, zf, if_false]
  rw [eqS_String v.faces (by have h := hw; simp only [DC.wt, zm] at h; omega)]
  simp only [zr, zz0, zz1, zb, zi, zs, zl, bne_self_eq_false, beq_self_eq_true, Bool.not_true, zf, if_false]
  rw [eqS_FieldDef v.fields (by omega)]
  simp only [zr, zz0, zz1, zb, zi, zs, zl, bne_self_eq_false, beq_self_eq_true, Bool.not_true, zf, if_false]
  rw [eqS_InDef v.inputs (by omega)]
  simp only [zr, zz0, zz1, zb, zi, zs, zl, bne_self_eq_false, beq_self_eq_true, Bool.not_true, zf, if_false]
  rw [eqS_EnumDef v.values (by omega)]
  simp only [zr, zz0, zz1, zb, zi, zs, zl, bne_self_eq_false, beq_self_eq_true, Bool.not_true, zf, if_false]
  rw [eqS_Root v.roots (by omega)]
  simp only [zr, zz0, zz1, zb, zi, zs, zl, bne_self_eq_false, beq_self_eq_true, Bool.not_true, zf, if_false]
  rw [eqS_Dir v.dirs (by omega)]
  simp only [zr, zz0, zz1, zb, zi, zs, zl, bne_self_eq_false, beq_self_eq_true, Bool.not_true, zf, if_false]
end Go.Proofs.QV
