import Derived.Test.YthjfcobfjljkpaaGreatDoorMO8
import Derived.Test.YthjfcobfjljkpaaGreatDoorMO7
import Derived.Test.YthjfcobfjljkpaaGreatDoorMO6
/- Selections: the reference and the program print the same (written by a program in part). -/
namespace Go.Proofs.QV
open Go
set_option linter.unusedVariables false
set_option linter.unusedSimpArgs false
set_option maxRecDepth 100000
theorem blanks_len (n : Nat) : (blanks n).length = 2 * n := by simp [blanks]
theorem spec_l11Blanks (n : Nat) (hn : n ≤ 1000) (out : List UInt8) (ho : out.length + 2 * n < 1073741824) : r_spec_l11Blanks [.sl (brows out), .i (n : Int)] = .ret [.sl (brows (out ++ blanks n))] := by
  have hw : IntKind.i64.wrap (2 * (n : Int)) = ((2 * n : Nat) : Int) := by rw [wrap64 (by omega) (by omega)]; omega
  have h := Loop_upto (F := E_spec_l11BlanksL1) (st := fun i => [.sl (brows (out ++ List.replicate i 32)), .i (n : Int), .i (i : Int)]) (o := .ex 0 [.sl (brows (out ++ blanks n))]) (2 * n) 0 (fun j _ hj => ?step) ?fin
  case step =>
    have d : decide ((j : Int) < ((2 * n : Nat) : Int)) = true := decide_eq_true (by omega)
    have wi : IntKind.i64.wrap ((j : Int) + 1) = ((j + 1 : Nat) : Int) := by rw [wrap64 (by omega) (by omega)]; omega
    try dsimp only
    rw [List.replicate_succ', ← List.append_assoc]
    simp (disch := first | omega | (simp only [List.length_append, List.length_cons, List.length_nil, List.length_replicate] <;> omega)) only [E_spec_l11BlanksL1, List.getD_cons_zero, List.getD_cons_succ, DC.bb_b, DC.ii_i, DC.ss_s, DC.ll_sl, bytesRow_eq, brows_app', brows_len, List.length_append, List.length_cons, List.length_nil, LIM, if_true, if_false, Bool.false_eq_true, Out.bindR_ret, Out.andThen_norm, Out.andThenB_ret, Out.andThenB_norm, Out.andThenB_ex, if_pos, Int.toNat_natCast, List.length_map, true_and, and_self, decide_true, b64, b58, b44, b46, b36, b40, b41, b91, b93, b123, b125, b32, b10, bc44, bc58, bc32, bc46, bc123, bc64, bc10, bc125, bc40, bc41, bc91, bc93, bc36, List.length_replicate, hw, d, wi]
  case fin =>
    refine Loop_ex ?_
    rw [Nat.zero_add]
    have d : decide (((2 * n : Nat) : Int) < ((2 * n : Nat) : Int)) = false := decide_eq_false (by omega)
    simp only [E_spec_l11BlanksL1, List.getD_cons_zero, List.getD_cons_succ, DC.bb_b, DC.ii_i, DC.ss_s, DC.ll_sl, hw, d, Bool.false_eq_true, if_false, blanks]
  simp only [Int.natCast_zero, List.replicate_zero, List.append_nil] at h
  rw [eq_spec_l11Blanks]
  simp only [E_spec_l11Blanks, List.getD_cons_zero, List.getD_cons_succ, DC.bb_b, DC.ii_i, DC.ss_s, DC.ll_sl, h, Out.andThenB_ex, if_true]
theorem spec_block (l : List TSel) (n : Nat) (hn : n ≤ 40) (ih : ∀ out : List UInt8, out.length + (selsT l (n + 1)).length < 1073741824 → r_spec_l11Say [.sl (brows out), .sl (l.map TSel.enc), .i ((n + 1 : Nat) : Int)] = .ret [.sl (brows (out ++ selsT l (n + 1)))])
    (out : List UInt8) (ho : out.length + (blockT n (selsT l (n + 1))).length < 1073741824) : r_spec_l11Block [.sl (brows out), .sl (l.map TSel.enc), .i (n : Int)] = .ret [.sl (brows (out ++ blockT n (selsT l (n + 1))))] := by
  have hw : IntKind.i64.wrap ((n : Int) + 1) = ((n + 1 : Nat) : Int) := by rw [wrap64 (by omega) (by omega)]; omega
  have hb := spec_l11Blanks n (by omega)
  unfold blockT at ho ⊢
  simp only [List.length_append, List.length_cons, List.length_nil, blanks_len] at ho
  rw [eq_spec_l11Block]
  simp (disch := first | omega | (simp only [List.length_append, List.length_cons, List.length_nil, brows_len, LIM, blanks_len] <;> omega)) only [E_spec_l11Block, List.getD_cons_zero, List.getD_cons_succ, DC.bb_b, DC.ii_i, DC.ss_s, DC.ll_sl, bytesRow_eq, brows_app', brows_len, List.length_append, List.length_cons, List.length_nil, LIM, if_true, if_false, Bool.false_eq_true, Out.bindR_ret, Out.andThen_norm, Out.andThenB_ret, Out.andThenB_norm, Out.andThenB_ex, if_pos, Int.toNat_natCast, List.length_map, true_and, and_self, decide_true, b64, b58, b44, b46, b36, b40, b41, b91, b93, b123, b125, b32, b10, bc44, bc58, bc32, bc46, bc123, bc64, bc10, bc125, bc40, bc41, bc91, bc93, bc36, blanks_len, hw, ih, hb]
  simp
theorem say_list (l : List TSel) (n : Nat) (hn : n ≤ 40) (hw : DC.wt (.sl (l.map TSel.enc)) ≤ 1048576) (hA : ∀ x ∈ l, argsOk x.args = true) (hD : ∀ x ∈ l, dirsOk x.dirs = true)
    (ih : ∀ x ∈ l, ∀ out : List UInt8, out.length + (selsT x.sels (n + 1)).length < 1073741824 → r_spec_l11Say [.sl (brows out), .sl (x.sels.map TSel.enc), .i ((n + 1 : Nat) : Int)] = .ret [.sl (brows (out ++ selsT x.sels (n + 1)))])
    (out : List UInt8) (ho : out.length + (selsT l n).length < 1073741824) : r_spec_l11Say [.sl (brows out), .sl (l.map TSel.enc), .i (n : Int)] = .ret [.sl (brows (out ++ selsT l n))] := by
  obtain ⟨hl, hx⟩ := sl_wt hw
  have hb := spec_l11Blanks n (by omega)
  have hlp := jt_loop (o := []) (sep := []) (f := fun s => selT s n) (l := l) (st := fun i cur => [.sl (brows cur), .sl (l.map TSel.enc), .i (n : Int), .i (i : Int)]) (F := E_spec_l11SayL1) (res := .ex 0 [.sl (brows (out ++ selsT l n))]) out
    (fun i hi cur hc => ?step) ?fin (Out.esc_ex _ _)
  case fin => simp [E_spec_l11SayL1, selsT]
  case step =>
    have hm := List.getElem_mem hi
    have hwv := hx _ hm
    rw [sel_wsum] at hwv
    have h1 := spec_l10Say l[i].args (by omega) (hA _ hm)
    have h2 := spec_l10SayDirs l[i].dirs (by omega) (hD _ hm)
    have h3 := spec_block l[i].sels n hn (ih _ hm)
    have c2 : 0 ≤ (i : Int) ∧ (i : Int) < (l.length : Int) := by omega
    have d : decide ((i : Int) < (l.length : Int)) = true := decide_eq_true (by omega)
    have wi := wrap_succ hi (show l.length ≤ 9223372036854775807 by omega)
    rw [ite_self, List.nil_append] at hc ⊢
    change cur.length + (selT l[i] n).length ≤ out.length + (selsT l n).length at hc
    try dsimp only
    rw [selT_eq] at hc ⊢
    unfold headT at hc ⊢
    have hs : decide (((l[i].sels.map TSel.enc).length : Int) > 0) = !l[i].sels.isEmpty := by cases l[i].sels with | nil => rfl | cons a l => exact decide_eq_true (by simp)
    simp only [List.length_map] at hs
    simp only [List.length_append, List.length_cons, List.length_nil, blanks_len] at hc
    generalize hE : l[i].sels.isEmpty = e at *
    by_cases k1 : l[i].kind = 1
    · have c1 : (l[i].kind == 1) = true := beq_iff_eq.2 k1
      rw [if_pos k1] at hc ⊢
      by_cases ka : l[i].alias = []
      · have ca : (l[i].alias == ([] : List UInt8)) = true := beq_iff_eq.2 ka
        rw [if_pos ka] at hc ⊢
        cases e
        · simp only [Bool.false_eq_true, if_false, List.length_nil, List.length_append] at hc
          simp (disch := first | omega | (simp only [List.length_append, List.length_cons, List.length_nil, brows_len, LIM, blanks_len] <;> omega)) only [E_spec_l11SayL1, List.getD_cons_zero, List.getD_cons_succ, DC.bb_b, DC.ii_i, DC.ss_s, DC.ll_sl, bytesRow_eq, brows_app', brows_len, List.length_append, List.length_cons, List.length_nil, LIM, if_true, if_false, Bool.false_eq_true, Out.bindR_ret, Out.andThen_norm, Out.andThenB_ret, Out.andThenB_norm, Out.andThenB_ex, if_pos, Int.toNat_natCast, List.length_map, true_and, and_self, decide_true, b64, b58, b44, b46, b36, b40, b41, b91, b93, b123, b125, b32, b10, bc44, bc58, bc32, bc46, bc123, bc64, bc10, bc125, bc40, bc41, bc91, bc93, bc36, blanks_len, map_getD hi, TSel.enc_eq, d, c2, c1, ca, hs, hb, h1, h2, h3, wi, Bool.not_true, Bool.not_false]
          simp
        · simp only [if_true, List.length_nil, List.length_append] at hc
          simp (disch := first | omega | (simp only [List.length_append, List.length_cons, List.length_nil, brows_len, LIM, blanks_len] <;> omega)) only [E_spec_l11SayL1, List.getD_cons_zero, List.getD_cons_succ, DC.bb_b, DC.ii_i, DC.ss_s, DC.ll_sl, bytesRow_eq, brows_app', brows_len, List.length_append, List.length_cons, List.length_nil, LIM, if_true, if_false, Bool.false_eq_true, Out.bindR_ret, Out.andThen_norm, Out.andThenB_ret, Out.andThenB_norm, Out.andThenB_ex, if_pos, Int.toNat_natCast, List.length_map, true_and, and_self, decide_true, b64, b58, b44, b46, b36, b40, b41, b91, b93, b123, b125, b32, b10, bc44, bc58, bc32, bc46, bc123, bc64, bc10, bc125, bc40, bc41, bc91, bc93, bc36, blanks_len, map_getD hi, TSel.enc_eq, d, c2, c1, ca, hs, hb, h1, h2, h3, wi, Bool.not_true, Bool.not_false]
          simp
      · have ca : (l[i].alias == ([] : List UInt8)) = false := beq_eq_false_iff_ne.2 ka
        rw [if_neg ka] at hc ⊢
        cases e
        · simp only [Bool.false_eq_true, if_false, List.length_nil, List.length_append, List.length_cons] at hc
          simp (disch := first | omega | (simp only [List.length_append, List.length_cons, List.length_nil, brows_len, LIM, blanks_len] <;> omega)) only [E_spec_l11SayL1, List.getD_cons_zero, List.getD_cons_succ, DC.bb_b, DC.ii_i, DC.ss_s, DC.ll_sl, bytesRow_eq, brows_app', brows_len, List.length_append, List.length_cons, List.length_nil, LIM, if_true, if_false, Bool.false_eq_true, Out.bindR_ret, Out.andThen_norm, Out.andThenB_ret, Out.andThenB_norm, Out.andThenB_ex, if_pos, Int.toNat_natCast, List.length_map, true_and, and_self, decide_true, b64, b58, b44, b46, b36, b40, b41, b91, b93, b123, b125, b32, b10, bc44, bc58, bc32, bc46, bc123, bc64, bc10, bc125, bc40, bc41, bc91, bc93, bc36, blanks_len, map_getD hi, TSel.enc_eq, d, c2, c1, ca, hs, hb, h1, h2, h3, wi, Bool.not_true, Bool.not_false]
          simp
        · simp only [if_true, List.length_nil, List.length_append, List.length_cons] at hc
          simp (disch := first | omega | (simp only [List.length_append, List.length_cons, List.length_nil, brows_len, LIM, blanks_len] <;> omega)) only [E_spec_l11SayL1, List.getD_cons_zero, List.getD_cons_succ, DC.bb_b, DC.ii_i, DC.ss_s, DC.ll_sl, bytesRow_eq, brows_app', brows_len, List.length_append, List.length_cons, List.length_nil, LIM, if_true, if_false, Bool.false_eq_true, Out.bindR_ret, Out.andThen_norm, Out.andThenB_ret, Out.andThenB_norm, Out.andThenB_ex, if_pos, Int.toNat_natCast, List.length_map, true_and, and_self, decide_true, b64, b58, b44, b46, b36, b40, b41, b91, b93, b123, b125, b32, b10, bc44, bc58, bc32, bc46, bc123, bc64, bc10, bc125, bc40, bc41, bc91, bc93, bc36, blanks_len, map_getD hi, TSel.enc_eq, d, c2, c1, ca, hs, hb, h1, h2, h3, wi, Bool.not_true, Bool.not_false]
          simp
    have c1 : (l[i].kind == 1) = false := beq_eq_false_iff_ne.2 k1
    rw [if_neg k1] at hc ⊢
    by_cases k2 : l[i].kind = 2
    · have ck : (l[i].kind == 2) = true := beq_iff_eq.2 k2
      rw [if_pos k2] at hc ⊢
      cases e
      · simp only [Bool.false_eq_true, if_false, List.length_nil, List.length_append, List.length_cons] at hc
        simp (disch := first | omega | (simp only [List.length_append, List.length_cons, List.length_nil, brows_len, LIM, blanks_len] <;> omega)) only [E_spec_l11SayL1, List.getD_cons_zero, List.getD_cons_succ, DC.bb_b, DC.ii_i, DC.ss_s, DC.ll_sl, bytesRow_eq, brows_app', brows_len, List.length_append, List.length_cons, List.length_nil, LIM, if_true, if_false, Bool.false_eq_true, Out.bindR_ret, Out.andThen_norm, Out.andThenB_ret, Out.andThenB_norm, Out.andThenB_ex, if_pos, Int.toNat_natCast, List.length_map, true_and, and_self, decide_true, b64, b58, b44, b46, b36, b40, b41, b91, b93, b123, b125, b32, b10, bc44, bc58, bc32, bc46, bc123, bc64, bc10, bc125, bc40, bc41, bc91, bc93, bc36, blanks_len, map_getD hi, TSel.enc_eq, d, c2, c1, ck, hs, hb, h1, h2, h3, wi, Bool.not_true, Bool.not_false]
        simp
      · simp only [if_true, List.length_nil, List.length_append, List.length_cons] at hc
        simp (disch := first | omega | (simp only [List.length_append, List.length_cons, List.length_nil, brows_len, LIM, blanks_len] <;> omega)) only [E_spec_l11SayL1, List.getD_cons_zero, List.getD_cons_succ, DC.bb_b, DC.ii_i, DC.ss_s, DC.ll_sl, bytesRow_eq, brows_app', brows_len, List.length_append, List.length_cons, List.length_nil, LIM, if_true, if_false, Bool.false_eq_true, Out.bindR_ret, Out.andThen_norm, Out.andThenB_ret, Out.andThenB_norm, Out.andThenB_ex, if_pos, Int.toNat_natCast, List.length_map, true_and, and_self, decide_true, b64, b58, b44, b46, b36, b40, b41, b91, b93, b123, b125, b32, b10, bc44, bc58, bc32, bc46, bc123, bc64, bc10, bc125, bc40, bc41, bc91, bc93, bc36, blanks_len, map_getD hi, TSel.enc_eq, d, c2, c1, ck, hs, hb, h1, h2, h3, wi, Bool.not_true, Bool.not_false]
        simp
    have ck : (l[i].kind == 2) = false := beq_eq_false_iff_ne.2 k2
    rw [if_neg k2] at hc ⊢
    by_cases ka : l[i].on' = []
    · have ca : (l[i].on' == ([] : List UInt8)) = true := beq_iff_eq.2 ka
      rw [if_pos ka] at hc ⊢
      cases e
      · simp only [Bool.false_eq_true, if_false, List.length_nil, List.length_append, List.length_cons] at hc
        simp (disch := first | omega | (simp only [List.length_append, List.length_cons, List.length_nil, brows_len, LIM, blanks_len] <;> omega)) only [E_spec_l11SayL1, List.getD_cons_zero, List.getD_cons_succ, DC.bb_b, DC.ii_i, DC.ss_s, DC.ll_sl, bytesRow_eq, brows_app', brows_len, List.length_append, List.length_cons, List.length_nil, LIM, if_true, if_false, Bool.false_eq_true, Out.bindR_ret, Out.andThen_norm, Out.andThenB_ret, Out.andThenB_norm, Out.andThenB_ex, if_pos, Int.toNat_natCast, List.length_map, true_and, and_self, decide_true, b64, b58, b44, b46, b36, b40, b41, b91, b93, b123, b125, b32, b10, bc44, bc58, bc32, bc46, bc123, bc64, bc10, bc125, bc40, bc41, bc91, bc93, bc36, blanks_len, map_getD hi, TSel.enc_eq, d, c2, c1, ck, ca, hs, hb, h1, h2, h3, wi, Bool.not_true, Bool.not_false]
        simp
      · simp only [if_true, List.length_nil, List.length_append, List.length_cons] at hc
        simp (disch := first | omega | (simp only [List.length_append, List.length_cons, List.length_nil, brows_len, LIM, blanks_len] <;> omega)) only [E_spec_l11SayL1, List.getD_cons_zero, List.getD_cons_succ, DC.bb_b, DC.ii_i, DC.ss_s, DC.ll_sl, bytesRow_eq, brows_app', brows_len, List.length_append, List.length_cons, List.length_nil, LIM, if_true, if_false, Bool.false_eq_true, Out.bindR_ret, Out.andThen_norm, Out.andThenB_ret, Out.andThenB_norm, Out.andThenB_ex, if_pos, Int.toNat_natCast, List.length_map, true_and, and_self, decide_true, b64, b58, b44, b46, b36, b40, b41, b91, b93, b123, b125, b32, b10, bc44, bc58, bc32, bc46, bc123, bc64, bc10, bc125, bc40, bc41, bc91, bc93, bc36, blanks_len, map_getD hi, TSel.enc_eq, d, c2, c1, ck, ca, hs, hb, h1, h2, h3, wi, Bool.not_true, Bool.not_false]
        simp
    · have ca : (l[i].on' == ([] : List UInt8)) = false := beq_eq_false_iff_ne.2 ka
      rw [if_neg ka] at hc ⊢
      cases e
      · simp only [Bool.false_eq_true, if_false, List.length_nil, List.length_append, List.length_cons] at hc
        simp (disch := first | omega | (simp only [List.length_append, List.length_cons, List.length_nil, brows_len, LIM, blanks_len] <;> omega)) only [E_spec_l11SayL1, List.getD_cons_zero, List.getD_cons_succ, DC.bb_b, DC.ii_i, DC.ss_s, DC.ll_sl, bytesRow_eq, brows_app', brows_len, List.length_append, List.length_cons, List.length_nil, LIM, if_true, if_false, Bool.false_eq_true, Out.bindR_ret, Out.andThen_norm, Out.andThenB_ret, Out.andThenB_norm, Out.andThenB_ex, if_pos, Int.toNat_natCast, List.length_map, true_and, and_self, decide_true, b64, b58, b44, b46, b36, b40, b41, b91, b93, b123, b125, b32, b10, bc44, bc58, bc32, bc46, bc123, bc64, bc10, bc125, bc40, bc41, bc91, bc93, bc36, blanks_len, map_getD hi, TSel.enc_eq, d, c2, c1, ck, ca, hs, hb, h1, h2, h3, wi, Bool.not_true, Bool.not_false]
        simp
      · simp only [if_true, List.length_nil, List.length_append, List.length_cons] at hc
        simp (disch := first | omega | (simp only [List.length_append, List.length_cons, List.length_nil, brows_len, LIM, blanks_len] <;> omega)) only [E_spec_l11SayL1, List.getD_cons_zero, List.getD_cons_succ, DC.bb_b, DC.ii_i, DC.ss_s, DC.ll_sl, bytesRow_eq, brows_app', brows_len, List.length_append, List.length_cons, List.length_nil, LIM, if_true, if_false, Bool.false_eq_true, Out.bindR_ret, Out.andThen_norm, Out.andThenB_ret, Out.andThenB_norm, Out.andThenB_ex, if_pos, Int.toNat_natCast, List.length_map, true_and, and_self, decide_true, b64, b58, b44, b46, b36, b40, b41, b91, b93, b123, b125, b32, b10, bc44, bc58, bc32, bc46, bc123, bc64, bc10, bc125, bc40, bc41, bc91, bc93, bc36, blanks_len, map_getD hi, TSel.enc_eq, d, c2, c1, ck, ca, hs, hb, h1, h2, h3, wi, Bool.not_true, Bool.not_false]
        simp
  rw [Int.natCast_zero] at hlp
  rw [eq_spec_l11Say]
  simp only [E_spec_l11Say, List.getD_cons_zero, List.getD_cons_succ, DC.bb_b, DC.ii_i, DC.ss_s, DC.ll_sl, hlp, Out.andThenB_ex, if_true]
theorem spec_l11Say : ∀ (r : Nat) (l : List TSel) (n : Nat), r ≤ 10 → n + r ≤ 40 → DC.wt (.sl (l.map TSel.enc)) ≤ 1048576 → (∀ x ∈ l, selR r x = true) → ∀ out : List UInt8, out.length + (selsT l n).length < 1073741824 →
    r_spec_l11Say [.sl (brows out), .sl (l.map TSel.enc), .i (n : Int)] = .ret [.sl (brows (out ++ selsT l n))]
  | 0, l, n, hr, hn, hw, hok, out, ho => by
    have hx := (sl_wt hw).2
    refine say_list l n (by omega) hw (fun x hm => ?_) (fun x hm => ?_) (fun x hm => ?_) out ho
    all_goals
      obtain ⟨r, h0, _⟩ := sel_facts x (hx x hm) 0 (by omega) (hok x hm)
      omega
  | r + 1, l, n, hr, hn, hw, hok, out, ho => by
    have hx := (sl_wt hw).2
    refine say_list l n (by omega) hw (fun x hm => ?_) (fun x hm => ?_) (fun x hm => ?_) out ho
    · obtain ⟨_, _, _, h1, _⟩ := sel_facts x (hx x hm) (r + 1) (by omega) (hok x hm)
      exact h1
    · obtain ⟨_, _, _, _, h1, _⟩ := sel_facts x (hx x hm) (r + 1) (by omega) (hok x hm)
      exact h1
    · obtain ⟨r', h0, _, _, _, h1⟩ := sel_facts x (hx x hm) (r + 1) (by omega) (hok x hm)
      have : r' = r := by omega
      subst this
      have hwx := hx x hm
      rw [sel_wsum] at hwx
      exact spec_l11Say r' x.sels (n + 1) (by omega) (by omega) (by omega) h1
theorem cf_impl_SelsText_1 (ok : TSel → Bool) (l : List TSel) (hl : l.length ≤ 1048576) (hc : ∀ x ∈ l, r_impl_SelsText_1 [.i x.kind, .s x.alias, .s x.name, .s x.on', .sl (x.args.map TArg.enc), .sl (x.dirs.map TDir.enc), .sl (x.sels.map TSel.enc)] = .ret [.b (!ok x)]) : r_slices_ContainsFunc_impl_Sel__impl_SelsText_1 [.sl (l.map TSel.enc)] = .ret [.b (!(l.all ok))] := by
  rw [eq_slices_ContainsFunc_impl_Sel__impl_SelsText_1]
  simp only [E_slices_ContainsFunc_impl_Sel__impl_SelsText_1, List.getD_cons_zero, DC.ll_sl]
  rw [eq_slices_IndexFunc_impl_Sel__impl_SelsText_1]
  simp only [E_slices_IndexFunc_impl_Sel__impl_SelsText_1, List.getD_cons_zero, DC.ll_sl, List.length_map]
  rw [show (0 : Int) = ((0 : Nat) : Int) from rfl, Loop_find0 (l := l) (st := fun i => [.sl (l.map TSel.enc), .i (l.length : Int), .i (i : Int)]) (p := fun n => !ok n) (stop := fun i _ => .ret [.i (i : Int)]) (fin := .ex 0 []) (fun i hi => ?step) (fun _ _ => Out.esc_ret _) ?fin (Out.esc_ex _ _), goF_idx]
  · rw [List.not_all_eq_any_not]
    cases hf : l.findIdx? fun n => !ok n with
    | none =>
      have : (l.any fun n => !ok n) = false := by
        rw [List.any_eq_false]
        intro x hx
        have := List.findIdx?_eq_none_iff.1 hf x hx
        simpa using this
      rw [this]
      simp
    | some j =>
      obtain ⟨hj, h1, h2⟩ := List.findIdx?_eq_some_iff_getElem.1 hf
      have : (l.any fun n => !ok n) = true := List.any_eq_true.2 ⟨l[j], List.getElem_mem hj, h1⟩
      rw [this]
      simp [hj]
  case step =>
    have c2 : 0 ≤ (i : Int) ∧ (i : Int) < (l.length : Int) := by omega
    have d : decide ((i : Int) < (l.length : Int)) = true := decide_eq_true (by omega)
    have he : r_impl_SelsText_1 [.i l[i].kind, .s l[i].alias, .s l[i].name, .s l[i].on', .sl (l[i].args.map TArg.enc), .sl (l[i].dirs.map TDir.enc), .sl (l[i].sels.map TSel.enc)] = .ret [.b (!ok l[i])] := hc _ (List.getElem_mem hi)
    simp only [E_slices_IndexFunc_impl_Sel__impl_SelsText_1L1, List.getD_cons_zero, List.getD_cons_succ, DC.bb_b, DC.ii_i, DC.ss_s, DC.ll_sl, Int.toNat_natCast, List.length_map, map_getD hi, TSel.enc_eq, d, c2, he, Out.bindR_ret, true_and, and_self, if_true]
    cases ok l[i] <;> simp [wrap_succ hi (show l.length ≤ 9223372036854775807 by omega)]
  case fin => simp [E_slices_IndexFunc_impl_Sel__impl_SelsText_1L1]
theorem repeat_blanks : ∀ n : Nat, Lib.repeatL [32, 32] n = blanks n
  | 0 => rfl
  | n + 1 => by
    rw [Lib.repeatL, repeat_blanks n, blanks, blanks, show 2 * (n + 1) = 2 * n + 1 + 1 by omega, List.replicate_succ, List.replicate_succ]
    rfl
theorem Repeat_ok (n : Nat) (h : n ≤ 1000) : r_strings_Repeat [.s [32, 32], .i (n : Int)] = .ret [.s (blanks n)] := by
  rw [eq_strings_Repeat]
  have : E_strings_Repeat [.s [32, 32], .i (n : Int)] = (match primH [.s, .i .i64] [.s] qRepeat h_strings_Repeat [.s [32, 32], .i (n : Int)] with | some r => Out.ret r | none => .fail) := rfl
  rw [this]
  have hq : qRepeat [.s [32, 32], .i (n : Int)] = some [.s (blanks n)] := by
    simp only [qRepeat]
    rw [if_pos ⟨by omega, by omega, by simp; omega⟩, Int.toNat_natCast, repeat_blanks]
  have : primH [.s, .i .i64] [.s] qRepeat h_strings_Repeat [.s [32, 32], .i (n : Int)] = (match qRepeat [.s [32, 32], .i (n : Int)] with | some r => if okDs [.s] r 0 = true then some r else none | none => none) := rfl
  rw [this, hq]
  rfl
theorem impl_selHead (s : TSel) (hw : wtL s.enc ≤ 1048576) (hn : selNm s = true) (hA : argsOk s.args = true) (hD : dirsOk s.dirs = true) :
    r_impl_selHead [.i s.kind, .s s.alias, .s s.name, .s s.on', .sl (s.args.map TArg.enc), .sl (s.dirs.map TDir.enc), .sl (s.sels.map TSel.enc)] = .ret [.s (headT s)] := by
  have hb := head_len s
  have hb2 : (headT s).length ≤ 8388616 := by omega
  clear hb
  rw [sel_wsum] at hw
  have h1 := impl_ArgsText s.args (by omega) hA
  have h2 := impl_DirsText s.dirs (by omega) hD
  rw [eq_impl_selHead]
  unfold headT at hb2 ⊢
  by_cases k1 : s.kind = 1
  · have c1 : (s.kind == 1) = true := beq_iff_eq.2 k1
    rw [if_pos k1] at hb2 ⊢
    by_cases ka : s.alias = []
    · have ca : (s.alias == ([] : List UInt8)) = true := beq_iff_eq.2 ka
      rw [if_pos ka] at hb2 ⊢
      simp only [List.length_append, List.length_nil] at hb2
      simp (disch := first | omega | (simp only [List.length_append, List.length_cons, List.length_nil, brows_len, LIM, blanks_len] <;> omega)) only [E_impl_selHead, List.getD_cons_zero, List.getD_cons_succ, DC.bb_b, DC.ii_i, DC.ss_s, DC.ll_sl, bytesRow_eq, brows_app', brows_len, List.length_append, List.length_cons, List.length_nil, LIM, if_true, if_false, Bool.false_eq_true, Out.bindR_ret, Out.andThen_norm, Out.andThenB_ret, Out.andThenB_norm, Out.andThenB_ex, if_pos, Int.toNat_natCast, List.length_map, true_and, and_self, decide_true, b64, b58, b44, b46, b36, b40, b41, b91, b93, b123, b125, b32, b10, bc44, bc58, bc32, bc46, bc123, bc64, bc10, bc125, bc40, bc41, bc91, bc93, bc36, c1, ca, h1, h2, Bool.not_true, Bool.not_false]
      simp
    · have ca : (s.alias == ([] : List UInt8)) = false := beq_eq_false_iff_ne.2 ka
      rw [if_neg ka] at hb2 ⊢
      simp only [List.length_append, List.length_nil, List.length_cons] at hb2
      simp (disch := first | omega | (simp only [List.length_append, List.length_cons, List.length_nil, brows_len, LIM, blanks_len] <;> omega)) only [E_impl_selHead, List.getD_cons_zero, List.getD_cons_succ, DC.bb_b, DC.ii_i, DC.ss_s, DC.ll_sl, bytesRow_eq, brows_app', brows_len, List.length_append, List.length_cons, List.length_nil, LIM, if_true, if_false, Bool.false_eq_true, Out.bindR_ret, Out.andThen_norm, Out.andThenB_ret, Out.andThenB_norm, Out.andThenB_ex, if_pos, Int.toNat_natCast, List.length_map, true_and, and_self, decide_true, b64, b58, b44, b46, b36, b40, b41, b91, b93, b123, b125, b32, b10, bc44, bc58, bc32, bc46, bc123, bc64, bc10, bc125, bc40, bc41, bc91, bc93, bc36, c1, ca, h1, h2, Bool.not_true, Bool.not_false]
      simp
  have c1 : (s.kind == 1) = false := beq_eq_false_iff_ne.2 k1
  rw [if_neg k1] at hb2 ⊢
  have hargs : s.args = [] := by
    unfold selNm at hn
    rw [c1] at hn
    simp only [Bool.false_and, Bool.false_or, Bool.or_eq_true, Bool.and_eq_true, List.isEmpty_iff] at hn
    rcases hn with h | h
    · exact h.2.2.2.2.2.1
    · exact h.2.2.2.2.1
  rw [hargs, argsT_nil, List.nil_append] at hb2 ⊢
  by_cases k2 : s.kind = 2
  · have ck : (s.kind == 2) = true := beq_iff_eq.2 k2
    rw [if_pos k2] at hb2 ⊢
    simp only [List.length_append, List.length_nil, List.length_cons] at hb2
    simp (disch := first | omega | (simp only [List.length_append, List.length_cons, List.length_nil, brows_len, LIM, blanks_len] <;> omega)) only [E_impl_selHead, List.getD_cons_zero, List.getD_cons_succ, DC.bb_b, DC.ii_i, DC.ss_s, DC.ll_sl, bytesRow_eq, brows_app', brows_len, List.length_append, List.length_cons, List.length_nil, LIM, if_true, if_false, Bool.false_eq_true, Out.bindR_ret, Out.andThen_norm, Out.andThenB_ret, Out.andThenB_norm, Out.andThenB_ex, if_pos, Int.toNat_natCast, List.length_map, true_and, and_self, decide_true, b64, b58, b44, b46, b36, b40, b41, b91, b93, b123, b125, b32, b10, bc44, bc58, bc32, bc46, bc123, bc64, bc10, bc125, bc40, bc41, bc91, bc93, bc36, c1, ck, h2, Bool.not_true, Bool.not_false]
  have ck : (s.kind == 2) = false := beq_eq_false_iff_ne.2 k2
  rw [if_neg k2] at hb2 ⊢
  by_cases ka : s.on' = []
  · have ca : (s.on' == ([] : List UInt8)) = true := beq_iff_eq.2 ka
    rw [if_pos ka] at hb2 ⊢
    simp only [List.length_append, List.length_nil, List.length_cons] at hb2
    simp (disch := first | omega | (simp only [List.length_append, List.length_cons, List.length_nil, brows_len, LIM, blanks_len] <;> omega)) only [E_impl_selHead, List.getD_cons_zero, List.getD_cons_succ, DC.bb_b, DC.ii_i, DC.ss_s, DC.ll_sl, bytesRow_eq, brows_app', brows_len, List.length_append, List.length_cons, List.length_nil, LIM, if_true, if_false, Bool.false_eq_true, Out.bindR_ret, Out.andThen_norm, Out.andThenB_ret, Out.andThenB_norm, Out.andThenB_ex, if_pos, Int.toNat_natCast, List.length_map, true_and, and_self, decide_true, b64, b58, b44, b46, b36, b40, b41, b91, b93, b123, b125, b32, b10, bc44, bc58, bc32, bc46, bc123, bc64, bc10, bc125, bc40, bc41, bc91, bc93, bc36, c1, ck, ca, h2, Bool.not_true, Bool.not_false]
  · have ca : (s.on' == ([] : List UInt8)) = false := beq_eq_false_iff_ne.2 ka
    rw [if_neg ka] at hb2 ⊢
    simp only [List.length_append, List.length_nil, List.length_cons] at hb2
    simp (disch := first | omega | (simp only [List.length_append, List.length_cons, List.length_nil, brows_len, LIM, blanks_len] <;> omega)) only [E_impl_selHead, List.getD_cons_zero, List.getD_cons_succ, DC.bb_b, DC.ii_i, DC.ss_s, DC.ll_sl, bytesRow_eq, brows_app', brows_len, List.length_append, List.length_cons, List.length_nil, LIM, if_true, if_false, Bool.false_eq_true, Out.bindR_ret, Out.andThen_norm, Out.andThenB_ret, Out.andThenB_norm, Out.andThenB_ex, if_pos, Int.toNat_natCast, List.length_map, true_and, and_self, decide_true, b64, b58, b44, b46, b36, b40, b41, b91, b93, b123, b125, b32, b10, bc44, bc58, bc32, bc46, bc123, bc64, bc10, bc125, bc40, bc41, bc91, bc93, bc36, c1, ck, ca, h2, Bool.not_true, Bool.not_false]
theorem text_list (l : List TSel) (n : Nat) (hn : n ≤ 40) (hw : DC.wt (.sl (l.map TSel.enc)) ≤ 1048576) (hN : ∀ x ∈ l, selNm x = true) (hA : ∀ x ∈ l, argsOk x.args = true) (hD : ∀ x ∈ l, dirsOk x.dirs = true)
    (ih : ∀ x ∈ l, r_impl_selsText [.sl (x.sels.map TSel.enc), .i ((n + 1 : Nat) : Int)] = .ret [.s (selsT x.sels (n + 1))])
    (ho : (selsT l n).length < 1073741824) : r_impl_selsText [.sl (l.map TSel.enc), .i (n : Int)] = .ret [.s (selsT l n)] := by
  obtain ⟨hl, hx⟩ := sl_wt hw
  have hlp := jt_loop (o := []) (sep := []) (f := fun s => selT s n) (l := l) (st := fun i cur => [.i (n : Int), .s (blanks n), .s cur, .sl (l.map TSel.enc), .i (l.length : Int), .i (i : Int)]) (F := E_impl_selsTextL1) (res := .ex 0 [.s ([] ++ selsT l n)]) []
    (fun i hi cur hc => ?step) ?fin (Out.esc_ex _ _)
  case fin => simp [E_impl_selsTextL1, selsT]
  case step =>
    have hm := List.getElem_mem hi
    have hwv := hx _ hm
    have h1 := impl_selHead l[i] hwv (hN _ hm) (hA _ hm) (hD _ hm)
    have h3 := ih _ hm
    have c2 : 0 ≤ (i : Int) ∧ (i : Int) < (l.length : Int) := by omega
    have d : decide ((i : Int) < (l.length : Int)) = true := decide_eq_true (by omega)
    have wi := wrap_succ hi (show l.length ≤ 9223372036854775807 by omega)
    have hwn : IntKind.i64.wrap ((n : Int) + 1) = ((n + 1 : Nat) : Int) := by rw [wrap64 (by omega) (by omega)]; omega
    rw [ite_self, List.nil_append] at hc ⊢
    change cur.length + (selT l[i] n).length ≤ ([] : List UInt8).length + (selsT l n).length at hc
    try dsimp only
    rw [selT_eq] at hc ⊢
    have hs : decide (((l[i].sels.map TSel.enc).length : Int) > 0) = !l[i].sels.isEmpty := by cases l[i].sels with | nil => rfl | cons a l => exact decide_eq_true (by simp)
    simp only [List.length_map] at hs
    simp only [List.length_append, List.length_cons, List.length_nil, blanks_len] at hc
    generalize hE : l[i].sels.isEmpty = e at *
    unfold blockT at hc ⊢
    cases e
    · simp only [Bool.false_eq_true, if_false, List.length_nil, List.length_append, List.length_cons, blanks_len] at hc
      simp (disch := first | omega | (simp only [List.length_append, List.length_cons, List.length_nil, brows_len, LIM, blanks_len] <;> omega)) only [E_impl_selsTextL1, List.getD_cons_zero, List.getD_cons_succ, DC.bb_b, DC.ii_i, DC.ss_s, DC.ll_sl, bytesRow_eq, brows_app', brows_len, List.length_append, List.length_cons, List.length_nil, LIM, if_true, if_false, Bool.false_eq_true, Out.bindR_ret, Out.andThen_norm, Out.andThenB_ret, Out.andThenB_norm, Out.andThenB_ex, if_pos, Int.toNat_natCast, List.length_map, true_and, and_self, decide_true, b64, b58, b44, b46, b36, b40, b41, b91, b93, b123, b125, b32, b10, bc44, bc58, bc32, bc46, bc123, bc64, bc10, bc125, bc40, bc41, bc91, bc93, bc36, blanks_len, map_getD hi, TSel.enc_eq, d, c2, hs, h1, h3, hwn, wi, Bool.not_true, Bool.not_false]
      simp
    · simp only [if_true, List.length_nil, List.length_append, List.length_cons] at hc
      simp (disch := first | omega | (simp only [List.length_append, List.length_cons, List.length_nil, brows_len, LIM, blanks_len] <;> omega)) only [E_impl_selsTextL1, List.getD_cons_zero, List.getD_cons_succ, DC.bb_b, DC.ii_i, DC.ss_s, DC.ll_sl, bytesRow_eq, brows_app', brows_len, List.length_append, List.length_cons, List.length_nil, LIM, if_true, if_false, Bool.false_eq_true, Out.bindR_ret, Out.andThen_norm, Out.andThenB_ret, Out.andThenB_norm, Out.andThenB_ex, if_pos, Int.toNat_natCast, List.length_map, true_and, and_self, decide_true, b64, b58, b44, b46, b36, b40, b41, b91, b93, b123, b125, b32, b10, bc44, bc58, bc32, bc46, bc123, bc64, bc10, bc125, bc40, bc41, bc91, bc93, bc36, blanks_len, map_getD hi, TSel.enc_eq, d, c2, hs, h1, h3, hwn, wi, Bool.not_true, Bool.not_false]
      simp
  rw [Int.natCast_zero, List.nil_append] at hlp
  rw [eq_impl_selsText]
  simp only [E_impl_selsText, List.getD_cons_zero, List.getD_cons_succ, DC.bb_b, DC.ii_i, DC.ss_s, DC.ll_sl, Repeat_ok n (by omega), Out.bindR_ret, List.length_map, hlp, Out.andThenB_ex, if_true]
theorem sels_len (l : List TSel) (r n : Nat) (hd : ∀ x ∈ l, depthLe r x) (hn : n + r ≤ 40) : (selsT l n).length ≤ 200 * DC.wt (.sl (l.map TSel.enc)) := flat_len l fun x hx => selT_len r x n (hd x hx) hn
theorem impl_selsText : ∀ (r : Nat) (l : List TSel) (n : Nat), r ≤ 10 → n + r ≤ 40 → DC.wt (.sl (l.map TSel.enc)) ≤ 1048576 → (∀ x ∈ l, selR r x = true) → r_impl_selsText [.sl (l.map TSel.enc), .i (n : Int)] = .ret [.s (selsT l n)]
  | 0, l, n, hr, hn, hw, hok => by
    have hx := (sl_wt hw).2
    have hb := sels_len l 0 n (fun x hm => sel_depth 0 x (hx x hm) (by omega) (hok x hm)) (by omega)
    refine text_list l n (by omega) hw (fun x hm => ?_) (fun x hm => ?_) (fun x hm => ?_) (fun x hm => ?_) (by omega)
    all_goals
      obtain ⟨r, h0, _⟩ := sel_facts x (hx x hm) 0 (by omega) (hok x hm)
      omega
  | r + 1, l, n, hr, hn, hw, hok => by
    have hx := (sl_wt hw).2
    have hb := sels_len l (r + 1) n (fun x hm => sel_depth (r + 1) x (hx x hm) (by omega) (hok x hm)) (by omega)
    refine text_list l n (by omega) hw (fun x hm => ?_) (fun x hm => ?_) (fun x hm => ?_) (fun x hm => ?_) (by omega)
    · obtain ⟨_, _, h1, _⟩ := sel_facts x (hx x hm) (r + 1) (by omega) (hok x hm)
      exact h1
    · obtain ⟨_, _, _, h1, _⟩ := sel_facts x (hx x hm) (r + 1) (by omega) (hok x hm)
      exact h1
    · obtain ⟨_, _, _, _, h1, _⟩ := sel_facts x (hx x hm) (r + 1) (by omega) (hok x hm)
      exact h1
    · obtain ⟨r', h0, _, _, _, h1⟩ := sel_facts x (hx x hm) (r + 1) (by omega) (hok x hm)
      have : r' = r := by omega
      subst this
      have hwx := hx x hm
      rw [sel_wsum] at hwx
      exact impl_selsText r' x.sels (n + 1) (by omega) (by omega) (by omega) h1
noncomputable def selsText (l : List TSel) (by' : Int) : List UInt8 := if ((decide (0 ≤ by') && decide (by' ≤ 20)) && l.all selOk) = true then selsT l by'.toNat else []
theorem selR_all {l : List TSel} (h : l.all selOk = true) : ∀ x ∈ l, selR ((10 : Nat) : Int) x = true := fun x hx => by
  have := List.all_eq_true.1 h x hx
  simp only [selOk, Bool.and_eq_true] at this
  exact this.1
theorem impl_SelsText (l : List TSel) (b : Int) (hw : DC.wt (.sl (l.map TSel.enc)) ≤ 1048576) : r_impl_SelsText [.sl (l.map TSel.enc), .i b] = .ret [.s (selsText l b)] := by
  obtain ⟨hl, hx⟩ := sl_wt hw
  have hc := cf_impl_SelsText_1 selOk l hl fun x hm => by
    rw [eq_impl_SelsText_1]
    simp only [E_impl_SelsText_1, List.getD_cons_zero, List.getD_cons_succ, DC.bb_b, DC.ii_i, DC.ss_s, DC.ll_sl, impl_SelOk x (hx x hm), Out.bindR_ret]
  rw [eq_impl_SelsText]
  simp only [E_impl_SelsText, List.getD_cons_zero, List.getD_cons_succ, DC.bb_b, DC.ii_i, DC.ss_s, DC.ll_sl, impl_in, hc, Out.bindR_ret]
  unfold selsText
  by_cases hb : 0 ≤ b ∧ b ≤ 20
  · have e : (decide (0 ≤ b) && decide (b ≤ 20)) = true := by simp [hb]
    rw [e]
    simp only [Bool.not_true, Bool.false_eq_true, if_false, Bool.true_and, Out.andThen_norm, List.getD_cons_zero, List.getD_cons_succ, DC.bb_b, DC.ii_i, DC.ss_s, DC.ll_sl]
    cases ho : l.all selOk with
    | false => simp
    | true =>
      have hR := selR_all ho
      have hS := impl_selsText 10 l b.toNat (by omega) (by omega) hw hR
      rw [show ((b.toNat : Nat) : Int) = b by omega] at hS
      simp only [Bool.not_true, Bool.false_eq_true, if_false, if_true, hS, Out.bindR_ret, List.getD_cons_zero, List.getD_cons_succ, DC.bb_b, DC.ii_i, DC.ss_s, DC.ll_sl]
  · have e : (decide (0 ≤ b) && decide (b ≤ 20)) = false := by
      rw [← Bool.decide_and]
      exact decide_eq_false hb
    rw [e]
    simp
theorem spec_TypeText (n w : List UInt8) (hn : n.length ≤ 1048576) (hg : typeOk n w = true) : r_spec_TypeText [.s n, .s w] = .ret [.s (typeT n w)] := by
  have hw8 : w.length ≤ 8 := by
    unfold typeOk at hg
    simp only [Bool.and_eq_true, decide_eq_true_eq] at hg
    exact hg.2.1
  have hk := spec_TypeOk n w hn (by omega)
  rw [hg] at hk
  have h := Loop_upto (F := E_spec_TypeTextL1) (st := fun i => [.s (typeT n (w.take i)), .i (i : Int), .s n, .s w]) (o := .ex 0 [.s (typeT n w)]) w.length 0 (fun j _ hj => ?step) ?fin
  case step =>
    have hj : j < w.length := by omega
    have hl := type_len (w.take j) n
    rw [List.length_take] at hl
    have hg' : w.getD j 0 = w[j] := by rw [List.getD_eq_getElem?_getD, List.getElem?_eq_getElem hj]; rfl
    have c2 : 0 ≤ (j : Int) ∧ (j : Int) < (w.length : Int) := by omega
    have d : decide ((j : Int) < (w.length : Int)) = true := decide_eq_true (by omega)
    have wi := wrap_succ hj (show w.length ≤ 9223372036854775807 by omega)
    have hu : ((w[j].toNat : Int) == 33) = (w[j] == 33) := u8_eq w[j] 33 (by omega)
    have ht : typeT n (w.take (j + 1)) = wrapT (typeT n (w.take j)) w[j] := by
      unfold typeT
      rw [← List.take_append_getElem hj, List.foldl_append]
      rfl
    try dsimp only
    rw [ht]
    unfold wrapT
    by_cases hc : w[j] = 33
    · have hb : (w[j] == 33) = true := beq_iff_eq.2 hc
      rw [if_pos hc]
      simp (disch := first | omega | (simp only [List.length_append, List.length_cons, List.length_nil, brows_len, LIM] <;> omega) | fail) only [E_spec_TypeTextL1, List.getD_cons_zero, List.getD_cons_succ, DC.bb_b, DC.ii_i, DC.ss_s, DC.ll_sl, bytesRow_eq, brows_app', brows_len, List.length_append, List.length_cons, List.length_nil, LIM, if_true, if_false, Bool.false_eq_true, Out.bindR_ret, Out.andThen_norm, Out.andThenB_ret, Out.andThenB_norm, Out.andThenB_ex, if_pos, Int.toNat_natCast, List.length_map, true_and, and_self, decide_true, b64, b58, b44, b46, b36, b40, b41, b91, b93, b123, b125, b32, b10, bc44, bc58, bc32, bc46, bc123, bc64, bc10, bc125, bc40, bc41, bc91, bc93, bc36, hg', hu, hb, d, c2, wi]
    · have hb : (w[j] == 33) = false := beq_eq_false_iff_ne.2 hc
      rw [if_neg hc]
      simp (disch := first | omega | (simp only [List.length_append, List.length_cons, List.length_nil, brows_len, LIM] <;> omega) | fail) only [E_spec_TypeTextL1, List.getD_cons_zero, List.getD_cons_succ, DC.bb_b, DC.ii_i, DC.ss_s, DC.ll_sl, bytesRow_eq, brows_app', brows_len, List.length_append, List.length_cons, List.length_nil, LIM, if_true, if_false, Bool.false_eq_true, Out.bindR_ret, Out.andThen_norm, Out.andThenB_ret, Out.andThenB_norm, Out.andThenB_ex, if_pos, Int.toNat_natCast, List.length_map, true_and, and_self, decide_true, b64, b58, b44, b46, b36, b40, b41, b91, b93, b123, b125, b32, b10, bc44, bc58, bc32, bc46, bc123, bc64, bc10, bc125, bc40, bc41, bc91, bc93, bc36, hg', hu, hb, d, c2, wi]
      rfl
  case fin =>
    refine Loop_ex ?_
    try dsimp only
    rw [Nat.zero_add, List.take_length]
    simp [E_spec_TypeTextL1]
  rw [List.take_zero, Int.natCast_zero] at h
  rw [eq_spec_TypeText]
  have h' : typeT n [] = n := rfl
  rw [h'] at h
  simp only [E_spec_TypeText, List.getD_cons_zero, List.getD_cons_succ, DC.bb_b, DC.ii_i, DC.ss_s, DC.ll_sl, hk, Bool.not_true, Bool.false_eq_true, if_false, if_true, Out.bindR_ret, h, Out.andThenB_ex]
theorem impl_TypeText (n w : List UInt8) (hn : n.length ≤ 1048576) (hg : typeOk n w = true) : r_impl_TypeText [.s n, .s w] = .ret [.s (typeT n w)] := by
  have hw8 : w.length ≤ 8 := by
    unfold typeOk at hg
    simp only [Bool.and_eq_true, decide_eq_true_eq] at hg
    exact hg.2.1
  have hk := impl_TypeOk n w hn (by omega)
  rw [hg] at hk
  have h := Loop_upto (F := E_impl_TypeTextL1) (st := fun i => [.s (typeT n (w.take i)), .i (w.length : Int), .i (i : Int), .s n, .s w]) (o := .ex 0 [.s (typeT n w)]) w.length 0 (fun j _ hj => ?step) ?fin
  case step =>
    have hj : j < w.length := by omega
    have hl := type_len (w.take j) n
    rw [List.length_take] at hl
    have hg' : w.getD j 0 = w[j] := by rw [List.getD_eq_getElem?_getD, List.getElem?_eq_getElem hj]; rfl
    have c2 : 0 ≤ (j : Int) ∧ (j : Int) < (w.length : Int) := by omega
    have d : decide ((j : Int) < (w.length : Int)) = true := decide_eq_true (by omega)
    have wi := wrap_succ hj (show w.length ≤ 9223372036854775807 by omega)
    have hu : ((w[j].toNat : Int) == 33) = (w[j] == 33) := u8_eq w[j] 33 (by omega)
    have ht : typeT n (w.take (j + 1)) = wrapT (typeT n (w.take j)) w[j] := by
      unfold typeT
      rw [← List.take_append_getElem hj, List.foldl_append]
      rfl
    try dsimp only
    rw [ht]
    unfold wrapT
    by_cases hc : w[j] = 33
    · have hb : (w[j] == 33) = true := beq_iff_eq.2 hc
      rw [if_pos hc]
      simp (disch := first | omega | (simp only [List.length_append, List.length_cons, List.length_nil, brows_len, LIM] <;> omega) | fail) only [E_impl_TypeTextL1, List.getD_cons_zero, List.getD_cons_succ, DC.bb_b, DC.ii_i, DC.ss_s, DC.ll_sl, bytesRow_eq, brows_app', brows_len, List.length_append, List.length_cons, List.length_nil, LIM, if_true, if_false, Bool.false_eq_true, Out.bindR_ret, Out.andThen_norm, Out.andThenB_ret, Out.andThenB_norm, Out.andThenB_ex, if_pos, Int.toNat_natCast, List.length_map, true_and, and_self, decide_true, b64, b58, b44, b46, b36, b40, b41, b91, b93, b123, b125, b32, b10, bc44, bc58, bc32, bc46, bc123, bc64, bc10, bc125, bc40, bc41, bc91, bc93, bc36, hg', hu, hb, d, c2, wi]
    · have hb : (w[j] == 33) = false := beq_eq_false_iff_ne.2 hc
      rw [if_neg hc]
      simp (disch := first | omega | (simp only [List.length_append, List.length_cons, List.length_nil, brows_len, LIM] <;> omega) | fail) only [E_impl_TypeTextL1, List.getD_cons_zero, List.getD_cons_succ, DC.bb_b, DC.ii_i, DC.ss_s, DC.ll_sl, bytesRow_eq, brows_app', brows_len, List.length_append, List.length_cons, List.length_nil, LIM, if_true, if_false, Bool.false_eq_true, Out.bindR_ret, Out.andThen_norm, Out.andThenB_ret, Out.andThenB_norm, Out.andThenB_ex, if_pos, Int.toNat_natCast, List.length_map, true_and, and_self, decide_true, b64, b58, b44, b46, b36, b40, b41, b91, b93, b123, b125, b32, b10, bc44, bc58, bc32, bc46, bc123, bc64, bc10, bc125, bc40, bc41, bc91, bc93, bc36, hg', hu, hb, d, c2, wi]
      rfl
  case fin =>
    refine Loop_ex ?_
    try dsimp only
    rw [Nat.zero_add, List.take_length]
    simp [E_impl_TypeTextL1]
  rw [List.take_zero, Int.natCast_zero] at h
  rw [eq_impl_TypeText]
  have h' : typeT n [] = n := rfl
  rw [h'] at h
  simp only [E_impl_TypeText, List.getD_cons_zero, List.getD_cons_succ, DC.bb_b, DC.ii_i, DC.ss_s, DC.ll_sl, hk, Bool.not_true, Bool.false_eq_true, if_false, if_true, Out.bindR_ret, h, Out.andThenB_ex]
def defaultT (has : Bool) (v : TValue) : List UInt8 := if has = true then [32, 61, 32] ++ valT v else []
theorem impl_defaultText (has : Bool) (v : TValue) (hw : wtL v.enc ≤ 1048576) (hg : defOk has v = true) : r_impl_defaultText [.b has, .i v.kind, .s v.text, .sl (v.items.map TValue.enc), .sl (v.names.map S1)] = .ret [.s (defaultT has v)] := by
  rw [eq_impl_defaultText]
  unfold defaultT
  cases has with
  | false => simp [E_impl_defaultText]
  | true =>
    have hv : valOk v = true := by
      simp only [defOk, if_true, Bool.and_eq_true] at hg
      exact hg.1
    have h1 := impl_ValueOk v hw
    rw [hv] at h1
    have h2 := impl_printValue v hw 10 (by omega) (by omega) hv
    have hl := valT_len v
    have h3 : r_impl_ValueText [.i v.kind, .s v.text, .sl (v.items.map TValue.enc), .sl (v.names.map S1)] = .ret [.s (valT v)] := by
      rw [eq_impl_ValueText]
      simp only [E_impl_ValueText, List.getD_cons_zero, List.getD_cons_succ, DC.bb_b, DC.ii_i, DC.ss_s, DC.ll_sl, h1, h2, Out.bindR_ret, Bool.not_true, Bool.false_eq_true, if_false]
    simp (disch := first | omega | (simp only [List.length_append, List.length_cons, List.length_nil, brows_len, LIM] <;> omega) | fail) only [E_impl_defaultText, List.getD_cons_zero, List.getD_cons_succ, DC.bb_b, DC.ii_i, DC.ss_s, DC.ll_sl, bytesRow_eq, brows_app', brows_len, List.length_append, List.length_cons, List.length_nil, LIM, if_true, if_false, Bool.false_eq_true, Out.bindR_ret, Out.andThen_norm, Out.andThenB_ret, Out.andThenB_norm, Out.andThenB_ex, if_pos, Int.toNat_natCast, List.length_map, true_and, and_self, decide_true, b64, b58, b44, b46, b36, b40, b41, b91, b93, b123, b125, b32, b10, bc44, bc58, bc32, bc46, bc123, bc64, bc10, bc125, bc40, bc41, bc91, bc93, bc36, h3, Bool.not_true]
theorem default_len (has : Bool) (v : TValue) : (defaultT has v).length ≤ 8 * wtL v.enc + 5 := by
  have := valT_len v
  unfold defaultT
  split
  · simp only [List.length_append, List.length_cons, List.length_nil]; omega
  · simp
def varT (v : TVarDef) : List UInt8 := 36 :: (v.name ++ ([58, 32] ++ (typeT v.type'.name v.type'.wraps ++ (defaultT v.has' v.default' ++ dirsT v.dirs))))
theorem var_facts {v : TVarDef} (h : varOk v = true) : typeOk v.type'.name v.type'.wraps = true ∧ defOk v.has' v.default' = true ∧ dirsOk v.dirs = true ∧ v.type'.wraps.length ≤ 8 := by
  simp only [varOk, constsOk, typeOk, Bool.and_eq_true, decide_eq_true_eq] at h ⊢
  exact ⟨h.2.1, h.2.2.1, h.2.2.2.1, h.2.1.2.1⟩
theorem varT_len (v : TVarDef) (h : varOk v = true) : (varT v).length ≤ 8 * wtL v.enc + 30 := by
  have h2 := type_len v.type'.wraps v.type'.name
  have h3 := default_len v.has' v.default'
  have h4 := dirs_len v.dirs
  have h5 := (var_facts h).2.2.2
  rw [var_wt]
  unfold varT
  simp only [List.length_append, List.length_cons, List.length_nil]
  omega
def varsT (l : List TVarDef) : List UInt8 := jt [40] [44, 32] varT l ++ (if l.isEmpty then [] else [41])
theorem varsT_cons (x : TVarDef) (l : List TVarDef) : varsT (x :: l) = 40 :: (Lib.join ((x :: l).map varT) [44, 32] ++ [41]) := by
  rw [varsT, jt_cons]
  rfl
theorem varsT_len (l : List TVarDef) (h : l.all varOk = true) : (varsT l).length ≤ 40 * DC.wt (.sl (l.map TVarDef.enc)) := by
  cases l with
  | nil => simp [varsT, jt]
  | cons x l =>
    have h1 := join_len ((x :: l).map varT)
    have h2 := sum_wtV (enc := TVarDef.enc) (f := varT) (a := 8) (b := 30) (x :: l) fun y hy => varT_len y (List.all_eq_true.1 h y hy)
    rw [varsT_cons, DC.wt]
    rw [List.length_map] at h1
    simp only [List.length_cons, List.length_append, List.length_nil, List.length_map] at h1 h2 ⊢
    omega
set_option maxHeartbeats 8000000 in
theorem spec_l12SayVars (l : List TVarDef) (hw : DC.wt (.sl (l.map TVarDef.enc)) ≤ 1048576) (hg : l.all varOk = true) (out : List UInt8) (ho : out.length + (varsT l).length < 1073741824) :
    r_spec_l12SayVars [.sl (brows out), .sl (l.map TVarDef.enc)] = .ret [.sl (brows (out ++ varsT l))] := by
  obtain ⟨hl, hx⟩ := sl_wt hw
  unfold varsT at ho ⊢
  rw [List.length_append] at ho
  have hlp := jt_loop (o := [40]) (sep := [44, 32]) (f := varT) (l := l) (st := fun i cur => [.sl (brows cur), .sl (l.map TVarDef.enc), .i (i : Int)]) (F := E_spec_l12SayVarsL1) (res := .ex 0 [.sl (brows (out ++ jt [40] [44, 32] varT l)), .sl (l.map TVarDef.enc)]) out
    (fun i hi cur hc => ?step) ?fin (Out.esc_ex _ _)
  case fin => simp [E_spec_l12SayVarsL1]
  case step =>
    have hm := List.getElem_mem hi
    have hwv := hx _ hm
    rw [var_wt] at hwv
    obtain ⟨g1, g2, g3, g4⟩ := var_facts (List.all_eq_true.1 hg _ hm)
    have hT := spec_TypeText l[i].type'.name l[i].type'.wraps (by omega) g1
    have hD := spec_l10SayDirs l[i].dirs (by omega) g3
    have c2 : 0 ≤ (i : Int) ∧ (i : Int) < (l.length : Int) := by omega
    have d : decide ((i : Int) < (l.length : Int)) = true := decide_eq_true (by omega)
    have wi := wrap_succ hi (show l.length ≤ 9223372036854775807 by omega)
    change cur.length + ((if i = 0 then [40] else [44, 32]) ++ varT l[i]).length ≤ _ at hc
    generalize hJT : (jt [40] [44, 32] varT l).length = J at hc ho
    unfold varT at hc ⊢
    have hV : l[i].has' = true → ∀ out : List UInt8, out.length + (valT l[i].default').length < 1073741824 → r_spec_l07Say [.sl (brows out), .i l[i].default'.kind, .s l[i].default'.text, .sl (l[i].default'.items.map TValue.enc), .sl (l[i].default'.names.map S1)] = .ret [.sl (brows (out ++ valT l[i].default'))] := by
      intro hh
      rw [hh] at g2
      have hv : valOk l[i].default' = true := by
        simp only [defOk, if_true, Bool.and_eq_true] at g2
        exact g2.1
      exact spec_l07Say l[i].default' (by omega) 10 (by omega) (by omega) hv
    rcases Bool.eq_false_or_eq_true l[i].has' with hh | hh
    · have hV := hV hh
      rw [hh] at hc ⊢
      simp only [defaultT, if_true] at hc ⊢
      by_cases h0 : i = 0
      · have c0 : ((i : Int) == 0) = true := beq_iff_eq.2 (by omega)
        rw [if_pos h0] at hc ⊢
        simp only [List.length_append, List.length_cons, List.length_nil] at hc
        simp (disch := first | omega | (simp only [List.length_append, List.length_cons, List.length_nil, brows_len, LIM] <;> omega) | fail) only [E_spec_l12SayVarsL1, List.getD_cons_zero, List.getD_cons_succ, DC.bb_b, DC.ii_i, DC.ss_s, DC.ll_sl, bytesRow_eq, brows_app', brows_len, List.length_append, List.length_cons, List.length_nil, LIM, if_true, if_false, Bool.false_eq_true, Out.bindR_ret, Out.andThen_norm, Out.andThenB_ret, Out.andThenB_norm, Out.andThenB_ex, if_pos, Int.toNat_natCast, List.length_map, true_and, and_self, decide_true, b64, b58, b44, b46, b36, b40, b41, b91, b93, b123, b125, b32, b10, bc44, bc58, bc32, bc46, bc123, bc64, bc10, bc125, bc40, bc41, bc91, bc93, bc36, map_getD hi, TVarDef.enc_eq, d, c0, c2, hh, hT, hD, hV, wi]
        simp
      · have c0 : ((i : Int) == 0) = false := beq_eq_false_iff_ne.2 (by omega)
        rw [if_neg h0] at hc ⊢
        simp only [List.length_append, List.length_cons, List.length_nil] at hc
        simp (disch := first | omega | (simp only [List.length_append, List.length_cons, List.length_nil, brows_len, LIM] <;> omega) | fail) only [E_spec_l12SayVarsL1, List.getD_cons_zero, List.getD_cons_succ, DC.bb_b, DC.ii_i, DC.ss_s, DC.ll_sl, bytesRow_eq, brows_app', brows_len, List.length_append, List.length_cons, List.length_nil, LIM, if_true, if_false, Bool.false_eq_true, Out.bindR_ret, Out.andThen_norm, Out.andThenB_ret, Out.andThenB_norm, Out.andThenB_ex, if_pos, Int.toNat_natCast, List.length_map, true_and, and_self, decide_true, b64, b58, b44, b46, b36, b40, b41, b91, b93, b123, b125, b32, b10, bc44, bc58, bc32, bc46, bc123, bc64, bc10, bc125, bc40, bc41, bc91, bc93, bc36, map_getD hi, TVarDef.enc_eq, d, c0, c2, hh, hT, hD, hV, wi]
        simp
    · rw [hh] at hc ⊢
      simp only [defaultT, Bool.false_eq_true, if_false, List.nil_append] at hc ⊢
      by_cases h0 : i = 0
      · have c0 : ((i : Int) == 0) = true := beq_iff_eq.2 (by omega)
        rw [if_pos h0] at hc ⊢
        simp only [List.length_append, List.length_cons, List.length_nil] at hc
        simp (disch := first | omega | (simp only [List.length_append, List.length_cons, List.length_nil, brows_len, LIM] <;> omega) | fail) only [E_spec_l12SayVarsL1, List.getD_cons_zero, List.getD_cons_succ, DC.bb_b, DC.ii_i, DC.ss_s, DC.ll_sl, bytesRow_eq, brows_app', brows_len, List.length_append, List.length_cons, List.length_nil, LIM, if_true, if_false, Bool.false_eq_true, Out.bindR_ret, Out.andThen_norm, Out.andThenB_ret, Out.andThenB_norm, Out.andThenB_ex, if_pos, Int.toNat_natCast, List.length_map, true_and, and_self, decide_true, b64, b58, b44, b46, b36, b40, b41, b91, b93, b123, b125, b32, b10, bc44, bc58, bc32, bc46, bc123, bc64, bc10, bc125, bc40, bc41, bc91, bc93, bc36, map_getD hi, TVarDef.enc_eq, d, c0, c2, hh, hT, hD, wi]
        simp
      · have c0 : ((i : Int) == 0) = false := beq_eq_false_iff_ne.2 (by omega)
        rw [if_neg h0] at hc ⊢
        simp only [List.length_append, List.length_cons, List.length_nil] at hc
        simp (disch := first | omega | (simp only [List.length_append, List.length_cons, List.length_nil, brows_len, LIM] <;> omega) | fail) only [E_spec_l12SayVarsL1, List.getD_cons_zero, List.getD_cons_succ, DC.bb_b, DC.ii_i, DC.ss_s, DC.ll_sl, bytesRow_eq, brows_app', brows_len, List.length_append, List.length_cons, List.length_nil, LIM, if_true, if_false, Bool.false_eq_true, Out.bindR_ret, Out.andThen_norm, Out.andThenB_ret, Out.andThenB_norm, Out.andThenB_ex, if_pos, Int.toNat_natCast, List.length_map, true_and, and_self, decide_true, b64, b58, b44, b46, b36, b40, b41, b91, b93, b123, b125, b32, b10, bc44, bc58, bc32, bc46, bc123, bc64, bc10, bc125, bc40, bc41, bc91, bc93, bc36, map_getD hi, TVarDef.enc_eq, d, c0, c2, hh, hT, hD, wi]
        simp
  rw [Int.natCast_zero] at hlp
  rw [eq_spec_l12SayVars]
  cases l with
  | nil => simp at hlp; simp [E_spec_l12SayVars, hlp]
  | cons a l =>
    have hpos : decide ((((a :: l).map TVarDef.enc).length : Int) > 0) = true := decide_eq_true (by simp)
    simp only [List.isEmpty_cons, Bool.false_eq_true, if_false, List.length_cons, List.length_nil] at ho
    simp only [List.length_map] at hpos
    simp (disch := first | omega | (simp only [List.length_append, List.length_cons, List.length_nil, brows_len, LIM] <;> omega) | fail) only [E_spec_l12SayVars, List.getD_cons_zero, List.getD_cons_succ, DC.bb_b, DC.ii_i, DC.ss_s, DC.ll_sl, bytesRow_eq, brows_app', brows_len, List.length_append, List.length_cons, List.length_nil, LIM, if_true, if_false, Bool.false_eq_true, Out.bindR_ret, Out.andThen_norm, Out.andThenB_ret, Out.andThenB_norm, Out.andThenB_ex, if_pos, Int.toNat_natCast, List.length_map, true_and, and_self, decide_true, b64, b58, b44, b46, b36, b40, b41, b91, b93, b123, b125, b32, b10, bc44, bc58, bc32, bc46, bc123, bc64, bc10, bc125, bc40, bc41, bc91, bc93, bc36, hlp, hpos, List.isEmpty_cons]
    simp
def wordT (k : Int) : List UInt8 := if k = 1 then [113, 117, 101, 114, 121] else if k = 2 then [109, 117, 116, 97, 116, 105, 111, 110] else if k = 3 then [115, 117, 98, 115, 99, 114, 105, 112, 116, 105, 111, 110] else []
theorem wordT_len (k : Int) : (wordT k).length ≤ 12 := by
  unfold wordT
  split
  · simp
  split
  · simp
  split <;> simp
def shortOp (v : TOp) : Bool := v.kind == 1 && (v.name == [] && (v.vars.isEmpty && v.dirs.isEmpty))
def opT (v : TOp) : List UInt8 := if shortOp v = true then [123, 10] ++ (selsT v.sels 1 ++ [125, 10]) else wordT v.kind ++ ((if v.name = [] then [] else 32 :: v.name) ++ (varsT v.vars ++ (dirsT v.dirs ++ (blockT 0 (selsT v.sels 1) ++ [10]))))
theorem sels_R {l : List TSel} (h : selsOk l = true) : ∀ x ∈ l, selR ((10 : Nat) : Int) x = true := fun x hx => by
  simp only [selsOk, Bool.and_eq_true] at h
  exact List.all_eq_true.1 h.1 x hx
theorem cnt_le {l : List TSel} : ∀ {x : TSel}, x ∈ l → selCnt x ≤ selsCnt l := by
  induction l with
  | nil => intro x h; simp at h
  | cons a l ih =>
    intro x h
    have : selsCnt (a :: l) = selCnt a + selsCnt l := by simp [selsCnt]
    rcases List.mem_cons.1 h with rfl | h
    · omega
    · have := ih h; omega
theorem sels_all {l : List TSel} (h : selsOk l = true) : l.all selOk = true := by
  have hR := sels_R h
  simp only [selsOk, Bool.and_eq_true, decide_eq_true_eq] at h
  refine List.all_eq_true.2 fun x hx => ?_
  have := cnt_le hx
  simp only [selOk, Bool.and_eq_true, decide_eq_true_eq]
  exact ⟨hR x hx, by omega⟩
theorem op_facts {v : TOp} (h : opOk v = true) : v.vars.all varOk = true ∧ dirsOk v.dirs = true ∧ selsOk v.sels = true := by
  simp only [opOk, Bool.and_eq_true] at h
  exact ⟨h.2.2.1, h.2.2.2.1, h.2.2.2.2.1⟩
noncomputable def opText (v : TOp) : List UInt8 := if opOk v = true then opT v else []
set_option maxHeartbeats 8000000 in
theorem spec_OpText (v : TOp) (hw : wtL v.enc ≤ 1048576) : r_spec_OpText [.i v.kind, .s v.name, .sl (v.vars.map TVarDef.enc), .sl (v.dirs.map TDir.enc), .sl (v.sels.map TSel.enc)] = .ret [.s (opText v)] := by
  have hk := spec_OpOk v hw
  rw [eq_spec_OpText]
  unfold opText
  cases hg : opOk v with
  | false => rw [hg] at hk; simp only [E_spec_OpText, List.getD_cons_zero, List.getD_cons_succ, DC.bb_b, DC.ii_i, DC.ss_s, DC.ll_sl, hk, Out.bindR_ret, Bool.not_false, if_true, Bool.false_eq_true, if_false]
  | true =>
    rw [hg] at hk
    obtain ⟨g1, g2, g3⟩ := op_facts hg
    rw [op_wt] at hw
    have hxs := (sl_wt (l := v.sels) (enc := TSel.enc) (n := 1048576) (by omega)).2
    have hR := sels_R g3
    have l1 := sels_len v.sels 10 1 (fun x hm => sel_depth 10 x (hxs x hm) (by omega) (hR x hm)) (by omega)
    have l2 := varsT_len v.vars g1
    have l3 := dirs_len v.dirs
    have l4 := wordT_len v.kind
    have hS := spec_l11Say 10 v.sels 1 (by omega) (by omega) (by omega) hR
    have hB : ∀ out : List UInt8, out.length + (blockT 0 (selsT v.sels 1)).length < 1073741824 → r_spec_l11Block [.sl (brows out), .sl (v.sels.map TSel.enc), .i 0] = .ret [.sl (brows (out ++ blockT 0 (selsT v.sels 1)))] := spec_block v.sels 0 (by omega) (fun out ho => hS out ho)
    have hV := spec_l12SayVars v.vars (by omega) g1
    have hD := spec_l10SayDirs v.dirs (by omega) g2
    have hO := spec_OpWord v.kind
    rw [show (if v.kind = 1 then [113, 117, 101, 114, 121] else if v.kind = 2 then [109, 117, 116, 97, 116, 105, 111, 110] else if v.kind = 3 then [115, 117, 98, 115, 99, 114, 105, 112, 116, 105, 111, 110] else ([] : List UInt8)) = wordT v.kind from rfl] at hO
    have hfl : (if (v.kind == 1) = true then if (v.name == ([] : List UInt8)) = true then if v.vars.isEmpty = true then Out.norm [.sl [], .b v.dirs.isEmpty, .i v.kind, .s v.name, .sl (v.vars.map TVarDef.enc), .sl (v.dirs.map TDir.enc), .sl (v.sels.map TSel.enc)] else .norm [.sl [], .b false, .i v.kind, .s v.name, .sl (v.vars.map TVarDef.enc), .sl (v.dirs.map TDir.enc), .sl (v.sels.map TSel.enc)] else .norm [.sl [], .b false, .i v.kind, .s v.name, .sl (v.vars.map TVarDef.enc), .sl (v.dirs.map TDir.enc), .sl (v.sels.map TSel.enc)] else .norm [.sl [], .b false, .i v.kind, .s v.name, .sl (v.vars.map TVarDef.enc), .sl (v.dirs.map TDir.enc), .sl (v.sels.map TSel.enc)]) = Out.norm [.sl [], .b (shortOp v), .i v.kind, .s v.name, .sl (v.vars.map TVarDef.enc), .sl (v.dirs.map TDir.enc), .sl (v.sels.map TSel.enc)] := by
      unfold shortOp
      cases (v.kind == 1) <;> cases (v.name == ([] : List UInt8)) <;> cases v.vars.isEmpty <;> simp
    simp only [E_spec_OpText, List.getD_cons_zero, List.getD_cons_succ, DC.bb_b, DC.ii_i, DC.ss_s, DC.ll_sl, hk, Out.bindR_ret, Bool.not_true, Bool.false_eq_true, if_false, len0]
    rw [hfl]
    unfold opT
    have lb : (blockT 0 (selsT v.sels 1)).length = (selsT v.sels 1).length + 4 := by simp [blockT, blanks]
    cases hs : shortOp v with
    | true =>
      have hS0 : r_spec_l11Say [.sl [], .sl (v.sels.map TSel.enc), .i 1] = .ret [.sl (brows (selsT v.sels 1))] := hS [] (by simp only [List.length_nil]; omega)
      simp (disch := first | omega | (simp only [List.length_append, List.length_cons, List.length_nil, brows_len, LIM] <;> omega) | fail) only [List.getD_cons_zero, List.getD_cons_succ, DC.bb_b, DC.ii_i, DC.ss_s, DC.ll_sl, bytesRow_eq, brows_app', brows_len, List.length_append, List.length_cons, List.length_nil, LIM, if_true, if_false, Bool.false_eq_true, Out.bindR_ret, Out.andThen_norm, Out.andThenB_ret, Out.andThenB_norm, Out.andThenB_ex, if_pos, Int.toNat_natCast, List.length_map, true_and, and_self, decide_true, b64, b58, b44, b46, b36, b40, b41, b91, b93, b123, b125, b32, b10, bc44, bc58, bc32, bc46, bc123, bc64, bc10, bc125, bc40, bc41, bc91, bc93, bc36, hS0, rowBytes_rows]
      simp
    | false =>
      by_cases kn : v.name = []
      · have cn : (v.name == ([] : List UInt8)) = true := beq_iff_eq.2 kn
        rw [if_pos kn]
        simp (disch := first | omega | (simp only [List.length_append, List.length_cons, List.length_nil, brows_len, LIM] <;> omega) | fail) only [List.getD_cons_zero, List.getD_cons_succ, DC.bb_b, DC.ii_i, DC.ss_s, DC.ll_sl, bytesRow_eq, brows_app', brows_len, List.length_append, List.length_cons, List.length_nil, LIM, if_true, if_false, Bool.false_eq_true, Out.bindR_ret, Out.andThen_norm, Out.andThenB_ret, Out.andThenB_norm, Out.andThenB_ex, if_pos, Int.toNat_natCast, List.length_map, true_and, and_self, decide_true, b64, b58, b44, b46, b36, b40, b41, b91, b93, b123, b125, b32, b10, bc44, bc58, bc32, bc46, bc123, bc64, bc10, bc125, bc40, bc41, bc91, bc93, bc36, List.nil_append, cn, hO, hV, hD, hB, lb, rowBytes_rows, Bool.not_true, Int.natCast_zero]
        simp
      · have cn : (v.name == ([] : List UInt8)) = false := beq_eq_false_iff_ne.2 kn
        rw [if_neg kn]
        simp (disch := first | omega | (simp only [List.length_append, List.length_cons, List.length_nil, brows_len, LIM] <;> omega) | fail) only [List.getD_cons_zero, List.getD_cons_succ, DC.bb_b, DC.ii_i, DC.ss_s, DC.ll_sl, bytesRow_eq, brows_app', brows_len, List.length_append, List.length_cons, List.length_nil, LIM, if_true, if_false, Bool.false_eq_true, Out.bindR_ret, Out.andThen_norm, Out.andThenB_ret, Out.andThenB_norm, Out.andThenB_ex, if_pos, Int.toNat_natCast, List.length_map, true_and, and_self, decide_true, b64, b58, b44, b46, b36, b40, b41, b91, b93, b123, b125, b32, b10, bc44, bc58, bc32, bc46, bc123, bc64, bc10, bc125, bc40, bc41, bc91, bc93, bc36, List.nil_append, cn, hO, hV, hD, hB, lb, rowBytes_rows, Bool.not_false, Int.natCast_zero]
        simp
set_option maxHeartbeats 8000000 in
theorem impl_OpText (v : TOp) (hw : wtL v.enc ≤ 1048576) : r_impl_OpText [.i v.kind, .s v.name, .sl (v.vars.map TVarDef.enc), .sl (v.dirs.map TDir.enc), .sl (v.sels.map TSel.enc)] = .ret [.s (opText v)] := by
  have hk := impl_OpOk v hw
  rw [eq_impl_OpText]
  unfold opText
  cases hg : opOk v with
  | false => rw [hg] at hk; simp only [E_impl_OpText, List.getD_cons_zero, List.getD_cons_succ, DC.bb_b, DC.ii_i, DC.ss_s, DC.ll_sl, hk, Out.bindR_ret, Bool.not_false, if_true, Bool.false_eq_true, if_false]
  | true =>
    rw [hg] at hk
    obtain ⟨g1, g2, g3⟩ := op_facts hg
    rw [op_wt] at hw
    obtain ⟨hvl, hvx⟩ := sl_wt (l := v.vars) (enc := TVarDef.enc) (n := 1048576) (by omega)
    have hxs := (sl_wt (l := v.sels) (enc := TSel.enc) (n := 1048576) (by omega)).2
    have hR := sels_R g3
    have l1 := sels_len v.sels 10 1 (fun x hm => sel_depth 10 x (hxs x hm) (by omega) (hR x hm)) (by omega)
    have l2 := varsT_len v.vars g1
    have l3 := dirs_len v.dirs
    have l4 := wordT_len v.kind
    have hT := impl_SelsText v.sels 1 (by omega)
    have hT2 : selsText v.sels 1 = selsT v.sels 1 := by
      unfold selsText
      rw [sels_all g3]
      rfl
    rw [hT2] at hT
    have hB : r_impl_bodyText [.sl (v.sels.map TSel.enc)] = .ret [.s ([123, 10] ++ selsT v.sels 1 ++ [125, 10])] := by
      rw [eq_impl_bodyText]
      simp (disch := first | omega | (simp only [List.length_append, List.length_cons, List.length_nil, brows_len, LIM] <;> omega) | fail) only [E_impl_bodyText, List.getD_cons_zero, List.getD_cons_succ, DC.bb_b, DC.ii_i, DC.ss_s, DC.ll_sl, bytesRow_eq, brows_app', brows_len, List.length_append, List.length_cons, List.length_nil, LIM, if_true, if_false, Bool.false_eq_true, Out.bindR_ret, Out.andThen_norm, Out.andThenB_ret, Out.andThenB_norm, Out.andThenB_ex, if_pos, Int.toNat_natCast, List.length_map, true_and, and_self, decide_true, b64, b58, b44, b46, b36, b40, b41, b91, b93, b123, b125, b32, b10, bc44, bc58, bc32, bc46, bc123, bc64, bc10, bc125, bc40, bc41, bc91, bc93, bc36, hT]
    have hD := impl_DirsText v.dirs (by omega) g2
    have hO := impl_OpWord v.kind
    rw [show (if v.kind = 1 then [113, 117, 101, 114, 121] else if v.kind = 2 then [109, 117, 116, 97, 116, 105, 111, 110] else if v.kind = 3 then [115, 117, 98, 115, 99, 114, 105, 112, 116, 105, 111, 110] else ([] : List UInt8)) = wordT v.kind from rfl] at hO
    have hlp : ∀ w0 : List UInt8, Loop E_impl_OpTextL1 [.s w0, .sl [], .sl (v.vars.map TVarDef.enc), .i (v.vars.length : Int), .i 0, .i v.kind, .s v.name, .sl (v.vars.map TVarDef.enc), .sl (v.dirs.map TDir.enc), .sl (v.sels.map TSel.enc)] = .ex 0 [.s w0, .sl ((v.vars.map varT).map fun x => [DC.s x]), .i v.kind, .s v.name, .sl (v.vars.map TVarDef.enc), .sl (v.dirs.map TDir.enc), .sl (v.sels.map TSel.enc)] := by
      intro w0
      have hlp := words_loop (w := varT) (l := v.vars) (st := fun i cur => [.s w0, .sl cur, .sl (v.vars.map TVarDef.enc), .i (v.vars.length : Int), .i (i : Int), .i v.kind, .s v.name, .sl (v.vars.map TVarDef.enc), .sl (v.dirs.map TDir.enc), .sl (v.sels.map TSel.enc)]) (F := E_impl_OpTextL1) (res := .ex 0 [.s w0, .sl ((v.vars.map varT).map fun x => [DC.s x]), .i v.kind, .s v.name, .sl (v.vars.map TVarDef.enc), .sl (v.dirs.map TDir.enc), .sl (v.sels.map TSel.enc)])
        (fun i hi cur hc => ?step) ?fin (Out.esc_ex _ _)
      case fin => simp [E_impl_OpTextL1, Function.comp_def]
      case step =>
        have hm := List.getElem_mem hi
        have hwv := hvx _ hm
        have hvo := List.all_eq_true.1 g1 _ hm
        have hlv := varT_len _ hvo
        have hlv2 : (varT v.vars[i]).length ≤ 8388638 := by omega
        clear hlv
        rw [var_wt] at hwv
        obtain ⟨e1, e2, e3, e4⟩ := var_facts hvo
        have hT := impl_TypeText v.vars[i].type'.name v.vars[i].type'.wraps (by omega) e1
        have hDf := impl_defaultText v.vars[i].has' v.vars[i].default' (by omega) e2
        have hDi := impl_DirsText v.vars[i].dirs (by omega) e3
        have c2 : 0 ≤ (i : Int) ∧ (i : Int) < (v.vars.length : Int) := by omega
        have d : decide ((i : Int) < (v.vars.length : Int)) = true := decide_eq_true (by omega)
        have wi := wrap_succ hi (show v.vars.length ≤ 9223372036854775807 by omega)
        unfold varT at hlv2 ⊢
        simp only [List.length_append, List.length_cons, List.length_nil] at hlv2
        simp (disch := first | omega | (simp only [List.length_append, List.length_cons, List.length_nil, brows_len, LIM] <;> omega) | fail) only [E_impl_OpTextL1, List.getD_cons_zero, List.getD_cons_succ, DC.bb_b, DC.ii_i, DC.ss_s, DC.ll_sl, bytesRow_eq, brows_app', brows_len, List.length_append, List.length_cons, List.length_nil, LIM, if_true, if_false, Bool.false_eq_true, Out.bindR_ret, Out.andThen_norm, Out.andThenB_ret, Out.andThenB_norm, Out.andThenB_ex, if_pos, Int.toNat_natCast, List.length_map, true_and, and_self, decide_true, b64, b58, b44, b46, b36, b40, b41, b91, b93, b123, b125, b32, b10, bc44, bc58, bc32, bc46, bc123, bc64, bc10, bc125, bc40, bc41, bc91, bc93, bc36, map_getD hi, TVarDef.enc_eq, d, c2, hT, hDf, hDi, wi]
        simp
      rw [Int.natCast_zero] at hlp
      exact hlp
    have hfl : (if (v.kind == 1) = true then if (v.name == ([] : List UInt8)) = true then if v.vars.isEmpty = true then Out.norm [.b v.dirs.isEmpty, .i v.kind, .s v.name, .sl (v.vars.map TVarDef.enc), .sl (v.dirs.map TDir.enc), .sl (v.sels.map TSel.enc)] else .norm [.b false, .i v.kind, .s v.name, .sl (v.vars.map TVarDef.enc), .sl (v.dirs.map TDir.enc), .sl (v.sels.map TSel.enc)] else .norm [.b false, .i v.kind, .s v.name, .sl (v.vars.map TVarDef.enc), .sl (v.dirs.map TDir.enc), .sl (v.sels.map TSel.enc)] else .norm [.b false, .i v.kind, .s v.name, .sl (v.vars.map TVarDef.enc), .sl (v.dirs.map TDir.enc), .sl (v.sels.map TSel.enc)]) = Out.norm [.b (shortOp v), .i v.kind, .s v.name, .sl (v.vars.map TVarDef.enc), .sl (v.dirs.map TDir.enc), .sl (v.sels.map TSel.enc)] := by
      unfold shortOp
      cases (v.kind == 1) <;> cases (v.name == ([] : List UInt8)) <;> cases v.vars.isEmpty <;> simp
    simp only [E_impl_OpText, List.getD_cons_zero, List.getD_cons_succ, DC.bb_b, DC.ii_i, DC.ss_s, DC.ll_sl, hk, Out.bindR_ret, Bool.not_true, Bool.false_eq_true, if_false, len0]
    rw [hfl]
    unfold opT
    cases hs : shortOp v with
    | true =>
      simp only [List.getD_cons_zero, List.getD_cons_succ, DC.bb_b, DC.ii_i, DC.ss_s, DC.ll_sl, Out.andThen_norm, if_true, hB, Out.bindR_ret]
      simp
    | false =>
      have hvars : ∀ w0 : List UInt8, w0.length ≤ 2000000 → (Out.andThen (if decide ((((v.vars.map varT).map fun x => [DC.s x]).length : Int) > 0) = true then (r_strings_Join [.sl ((v.vars.map varT).map fun x => [DC.s x]), .s [44, 32]]).bindR fun r12 => if ([40] : List UInt8).length + ((r12.getD 0 d0).ss).length < LIM then if (([40] : List UInt8) ++ ((r12.getD 0 d0).ss)).length + ([41] : List UInt8).length < LIM then if w0.length + ((([40] : List UInt8) ++ ((r12.getD 0 d0).ss)) ++ ([41] : List UInt8)).length < LIM then .norm [.s (w0 ++ ((([40] : List UInt8) ++ ((r12.getD 0 d0).ss)) ++ ([41] : List UInt8))), .i v.kind, .s v.name, .sl (v.vars.map TVarDef.enc), .sl (v.dirs.map TDir.enc), .sl (v.sels.map TSel.enc)] else .fail else .fail else .fail else .norm [.s w0, .i v.kind, .s v.name, .sl (v.vars.map TVarDef.enc), .sl (v.dirs.map TDir.enc), .sl (v.sels.map TSel.enc)]) fun v => .norm v) = .norm [.s (w0 ++ varsT v.vars), .i v.kind, .s v.name, .sl (v.vars.map TVarDef.enc), .sl (v.dirs.map TDir.enc), .sl (v.sels.map TSel.enc)] := by
        intro w0 h0
        cases hvv : v.vars with
        | nil => simp [varsT, jt]
        | cons a l =>
          have hne : v.vars = a :: l := hvv
          rw [← hvv]
          have hpos : decide ((((v.vars.map varT).map fun x => [DC.s x]).length : Int) > 0) = true := decide_eq_true (by rw [hne]; simp)
          have hvt : varsT v.vars = 40 :: (Lib.join (v.vars.map varT) [44, 32] ++ [41]) := by rw [hne, varsT_cons]
          have l2' := l2
          rw [hvt] at l2' ⊢
          simp only [List.length_append, List.length_cons, List.length_nil] at l2'
          have hJ := Join_ok (v.vars.map varT) (by rw [List.length_map]; exact hvl) (by omega)
          rw [hpos]
          simp (disch := first | omega | (simp only [List.length_append, List.length_cons, List.length_nil, brows_len, LIM] <;> omega) | fail) only [List.getD_cons_zero, List.getD_cons_succ, DC.bb_b, DC.ii_i, DC.ss_s, DC.ll_sl, bytesRow_eq, brows_app', brows_len, List.length_append, List.length_cons, List.length_nil, LIM, if_true, if_false, Bool.false_eq_true, Out.bindR_ret, Out.andThen_norm, Out.andThenB_ret, Out.andThenB_norm, Out.andThenB_ex, if_pos, Int.toNat_natCast, List.length_map, true_and, and_self, decide_true, b64, b58, b44, b46, b36, b40, b41, b91, b93, b123, b125, b32, b10, bc44, bc58, bc32, bc46, bc123, bc64, bc10, bc125, bc40, bc41, bc91, bc93, bc36, hJ]
          simp
      have and_norm : ∀ (o : Out) (x : List DC), (Out.andThen o fun v => .norm v) = .norm x → ∀ K : List DC → Out, Out.andThen o K = K x := by
        intro o x h K
        cases o <;> simp [Out.andThen] at h ⊢
        rw [h]
      by_cases kn : v.name = []
      · have cn : (v.name == ([] : List UInt8)) = true := beq_iff_eq.2 kn
        rw [if_pos kn]
        have hv := and_norm _ _ (hvars (wordT v.kind) (by omega))
        simp only [List.getD_cons_zero, List.getD_cons_succ, DC.bb_b, DC.ii_i, DC.ss_s, DC.ll_sl, Out.andThen_norm, Bool.false_eq_true, if_false, hO, Out.bindR_ret, cn, Bool.not_true, if_true, List.length_map, hlp, Out.andThenB_ex] at hv ⊢
        rw [hv]
        simp (disch := first | omega | (simp only [List.length_append, List.length_cons, List.length_nil, brows_len, LIM] <;> omega) | fail) only [List.getD_cons_zero, List.getD_cons_succ, DC.bb_b, DC.ii_i, DC.ss_s, DC.ll_sl, bytesRow_eq, brows_app', brows_len, List.length_append, List.length_cons, List.length_nil, LIM, if_true, if_false, Bool.false_eq_true, Out.bindR_ret, Out.andThen_norm, Out.andThenB_ret, Out.andThenB_norm, Out.andThenB_ex, if_pos, Int.toNat_natCast, List.length_map, true_and, and_self, decide_true, b64, b58, b44, b46, b36, b40, b41, b91, b93, b123, b125, b32, b10, bc44, bc58, bc32, bc46, bc123, bc64, bc10, bc125, bc40, bc41, bc91, bc93, bc36, hD, hB]
        simp [blockT, blanks]
      · have cn : (v.name == ([] : List UInt8)) = false := beq_eq_false_iff_ne.2 kn
        rw [if_neg kn]
        have hv := and_norm _ _ (hvars (wordT v.kind ++ ([32] ++ v.name)) (by simp only [List.length_append, List.length_cons, List.length_nil]; omega))
        have q1 : ([32] : List UInt8).length + v.name.length < LIM := by simp only [LIM, List.length_cons, List.length_nil]; omega
        have q2 : (wordT v.kind).length + (([32] : List UInt8) ++ v.name).length < LIM := by simp only [LIM, List.length_append, List.length_cons, List.length_nil]; omega
        simp only [List.getD_cons_zero, List.getD_cons_succ, DC.bb_b, DC.ii_i, DC.ss_s, DC.ll_sl, Out.andThen_norm, Bool.false_eq_true, if_false, hO, Out.bindR_ret, cn, Bool.not_false, if_true, q1, q2, List.length_map, hlp, Out.andThenB_ex] at hv ⊢
        rw [hv]
        simp (disch := first | omega | (simp only [List.length_append, List.length_cons, List.length_nil, brows_len, LIM] <;> omega) | fail) only [List.getD_cons_zero, List.getD_cons_succ, DC.bb_b, DC.ii_i, DC.ss_s, DC.ll_sl, bytesRow_eq, brows_app', brows_len, List.length_append, List.length_cons, List.length_nil, LIM, if_true, if_false, Bool.false_eq_true, Out.bindR_ret, Out.andThen_norm, Out.andThenB_ret, Out.andThenB_norm, Out.andThenB_ex, if_pos, Int.toNat_natCast, List.length_map, true_and, and_self, decide_true, b64, b58, b44, b46, b36, b40, b41, b91, b93, b123, b125, b32, b10, bc44, bc58, bc32, bc46, bc123, bc64, bc10, bc125, bc40, bc41, bc91, bc93, bc36, hD, hB]
        simp [blockT, blanks]
theorem szS_String (ns : List (List UInt8)) (ok : (DC.sl (ns.map S1)).ok) (left : Int) (h0 : 0 ≤ left) (h1 : left ≤ 1048576) : r_laws_szStringS [.sl (ns.map S1), .i left] = .ret [.i (szR left (DC.wt (.sl (ns.map S1))))] := by
  rw [DC.ok, List.length_map] at ok
  obtain ⟨hl, ok⟩ := ok
  rw [eq_laws_szStringS]
  simp only [E_laws_szStringS, List.getD_cons_zero, List.getD_cons_succ, DC.bb_b, DC.ii_i, DC.ss_s, DC.ll_sl]
  refine szS_all hl (fun i hi left h0 h1 => ?_) (fun left => ?_) h0 h1
  · have hn := okV_mem ok (S1 ns[i]) (List.mem_map_of_mem (List.getElem_mem hi))
    simp only [S1, okL, DC.ok] at hn
    have hw : IntKind.i64.wrap (left - (ns[i].length : Int)) = left - (ns[i].length : Int) := wrap64 (by omega) (by omega)
    have hc1 : (i : Int) < (ns.length : Int) := by omega
    simp only [E_laws_szStringSL1, List.getD_cons_zero, List.getD_cons_succ, DC.bb_b, DC.ii_i, DC.ss_s, DC.ll_sl, Int.toNat_natCast, List.length_map, map_getD hi, S1, wtL, DC.wt, hw]
    by_cases hc : left < (ns[i].length : Int)
    · simp [hi, hc1, hc, show left - (ns[i].length : Int) < 0 by omega]
    · simp [hi, hc1, hc, show ¬ left - (ns[i].length : Int) < 0 by omega, wrap_succ hi hl]
  · simp [E_laws_szStringSL1]
theorem toS_String (ns : List (List UInt8)) (hl : ns.length ≤ 1048576) : r_laws_toStringS [.sl (ns.map S1)] = .ret [.sl (ns.map S1)] := by
  rw [eq_laws_toStringS]
  simp only [E_laws_toStringS, List.getD_cons_zero, List.getD_cons_succ, DC.bb_b, DC.ii_i, DC.ss_s, DC.ll_sl]
  rw [if_pos ⟨by omega, by rw [List.length_map]; exact lim_of hl, trivial, by omega, by omega⟩, Int.toNat_natCast, List.length_map, show (0 : Int) = ((0 : Nat) : Int) from rfl, toS_loop hl (fun i hi cur h1 h2 => ?_) (fun cur => ?_)]
  · rfl
  · have hc1 : (i : Int) < (ns.length : Int) := by omega
    simp only [E_laws_toStringSL1, List.getD_cons_zero, List.getD_cons_succ, DC.bb_b, DC.ii_i, DC.ss_s, DC.ll_sl, Int.toNat_natCast, List.length_map, map_getD hi, h1, h2, S1]
    simp [hi, hc1, wrap_succ hi (show ns.length ≤ 9223372036854775807 by omega), setRunD]
  · simp [E_laws_toStringSL1]
theorem eqS_String (ns : List (List UInt8)) (hl : ns.length ≤ 1048576) : r_laws_eqStringS [.sl (ns.map S1), .sl (ns.map S1)] = .ret [.b true] := by
  rw [eq_laws_eqStringS]
  simp only [E_laws_eqStringS, List.getD_cons_zero, List.getD_cons_succ, DC.bb_b, DC.ii_i, DC.ss_s, DC.ll_sl]
  refine eqS_all (fun i hi => ?_) ?_
  · rw [List.length_map] at hi
    have hc1 : (i : Int) < (ns.length : Int) := by omega
    simp only [E_laws_eqStringSL1, List.getD_cons_zero, List.getD_cons_succ, DC.bb_b, DC.ii_i, DC.ss_s, DC.ll_sl, Int.toNat_natCast, List.length_map, map_getD hi, S1]
    simp [hi, hc1, wrap_succ hi (show ns.length ≤ 9223372036854775807 by omega)]
  · simp [E_laws_eqStringSL1]
theorem wsum_Value (v : TValue) : wtL (TValue.enc v) = v.text.length + DC.wt (.sl (v.items.map TValue.enc)) + DC.wt (.sl (v.names.map S1)) := by
  simp only [TValue.enc_eq, wtL, DC.wt]
  try omega
theorem szS_Value' (vs : List TValue) (hs : ∀ v ∈ vs, okL (TValue.enc v) → ∀ left : Int, 0 ≤ left → left ≤ 1048576 → r_laws_szValue [.i v.kind, .s v.text, .sl (v.items.map TValue.enc), .sl (v.names.map S1), .i left] = .ret [.i (szR left (wtL (TValue.enc v)))]) (ok : (DC.sl (vs.map TValue.enc)).ok) (left : Int) (h0 : 0 ≤ left) (h1 : left ≤ 1048576) : r_laws_szValueS [.sl (vs.map TValue.enc), .i left] = .ret [.i (szR left (DC.wt (.sl (vs.map TValue.enc))))] := by
  rw [DC.ok, List.length_map] at ok
  obtain ⟨hl, ok⟩ := ok
  rw [eq_laws_szValueS]
  simp only [E_laws_szValueS, List.getD_cons_zero, List.getD_cons_succ, DC.bb_b, DC.ii_i, DC.ss_s, DC.ll_sl]
  refine szS_all hl (fun i hi left h0 h1 => ?_) (fun left => ?_) h0 h1
  · have key := hs vs[i] (List.getElem_mem hi) (okV_mem ok _ (List.mem_map_of_mem (List.getElem_mem hi))) left h0 h1
    generalize wtL (TValue.enc vs[i]) = w at key ⊢
    have hc1 : (i : Int) < (vs.length : Int) := by omega
    simp only [E_laws_szValueSL1, List.getD_cons_zero, List.getD_cons_succ, DC.bb_b, DC.ii_i, DC.ss_s, DC.ll_sl, Int.toNat_natCast, List.length_map, map_getD hi, TValue.enc_eq, key, Out.bindR_ret]
    by_cases hc : left < (w : Int)
    · simp [hi, hc1, hc, szR_lt hc]
    · simp [hi, hc1, hc, szR_ge hc, show ¬ left - (w : Int) < 0 by omega, wrap_succ hi hl]
  · simp [E_laws_szValueSL1]
theorem sz_Value (v : TValue) : okL (TValue.enc v) → ∀ left : Int, 0 ≤ left → left ≤ 1048576 → r_laws_szValue [.i v.kind, .s v.text, .sl (v.items.map TValue.enc), .sl (v.names.map S1), .i left] = .ret [.i (szR left (wtL (TValue.enc v)))] := by
  induction v using TValue.ind with | h v ih =>
  intro ok left h0 h1
  rw [TValue.enc_eq] at ok
  simp only [okL] at ok
  rw [eq_laws_szValue]
  simp only [E_laws_szValue, List.getD_cons_zero, List.getD_cons_succ, DC.bb_b, DC.ii_i, DC.ss_s, DC.ll_sl]
  rw [wsum_Value]
  have b0 : v.text.length ≤ 9223372036854775807 := by simpa only [DC.ok] using ok.2.1
  rw [show IntKind.i64.wrap (left - (v.text.length : Int)) = left - (v.text.length : Int) from wrap64 (by omega) (by omega)]
  by_cases c0 : left < ((v.text.length : Nat) : Int)
  · have c0' : left - ((v.text.length : Nat) : Int) < 0 := by omega
    simp only [c0', decide_true, if_true]
    try rw [szR_lt (by omega)]
  have c0' : ¬ left - ((v.text.length : Nat) : Int) < 0 := by omega
  simp only [c0', decide_false, Bool.false_eq_true, if_false]
  rw [szS_Value' v.items (fun x hx => ih x hx) ok.2.2.1 ((left - ((v.text.length : Nat) : Int))) (by omega) (by omega)]
  simp only [Out.bindR_ret, List.getD_cons_zero, List.getD_cons_succ, DC.bb_b, DC.ii_i, DC.ss_s, DC.ll_sl]
  by_cases c1 : (left - ((v.text.length : Nat) : Int)) < ((DC.wt (.sl (v.items.map TValue.enc)) : Nat) : Int)
  · rw [szR_lt c1]
    simp only [show (-1 : Int) < 0 by omega, decide_true, if_true]
    try rw [szR_lt (by omega)]
  rw [szR_ge c1]
  have c1' : ¬ (left - ((v.text.length : Nat) : Int)) - ((DC.wt (.sl (v.items.map TValue.enc)) : Nat) : Int) < 0 := by omega
  simp only [c1', decide_false, Bool.false_eq_true, if_false]
  rw [szS_String v.names ok.2.2.2.1 (((left - ((v.text.length : Nat) : Int)) - ((DC.wt (.sl (v.items.map TValue.enc)) : Nat) : Int))) (by omega) (by omega)]
  simp only [Out.bindR_ret, List.getD_cons_zero, List.getD_cons_succ, DC.bb_b, DC.ii_i, DC.ss_s, DC.ll_sl]
  by_cases c2 : ((left - ((v.text.length : Nat) : Int)) - ((DC.wt (.sl (v.items.map TValue.enc)) : Nat) : Int)) < ((DC.wt (.sl (v.names.map S1)) : Nat) : Int)
  · rw [szR_lt c2]
    simp only [show (-1 : Int) < 0 by omega, decide_true, if_true]
    try rw [szR_lt (by omega)]
  rw [szR_ge c2]
  have c2' : ¬ ((left - ((v.text.length : Nat) : Int)) - ((DC.wt (.sl (v.items.map TValue.enc)) : Nat) : Int)) - ((DC.wt (.sl (v.names.map S1)) : Nat) : Int) < 0 := by omega
  simp only [c2', decide_false, Bool.false_eq_true, if_false]
  first
  | done
  | rw [show szR left (v.text.length + DC.wt (.sl (v.items.map TValue.enc)) + DC.wt (.sl (v.names.map S1))) = (((left - ((v.text.length : Nat) : Int)) - ((DC.wt (.sl (v.items.map TValue.enc)) : Nat) : Int)) - ((DC.wt (.sl (v.names.map S1)) : Nat) : Int)) from (szR_ge (by omega)).trans (by omega)]
theorem toS_Value' (vs : List TValue) (hs : ∀ v ∈ vs, wtL (TValue.enc v) ≤ 1048576 → r_laws_toValue [.i v.kind, .s v.text, .sl (v.items.map TValue.enc), .sl (v.names.map S1)] = .ret (TValue.enc v)) (hw : DC.wt (.sl (vs.map TValue.enc)) ≤ 1048576) : r_laws_toValueS [.sl (vs.map TValue.enc)] = .ret [.sl (vs.map TValue.enc)] := by
  rw [DC.wt, List.length_map] at hw
  have hl : vs.length ≤ 1048576 := by omega
  rw [eq_laws_toValueS]
  simp only [E_laws_toValueS, List.getD_cons_zero, List.getD_cons_succ, DC.bb_b, DC.ii_i, DC.ss_s, DC.ll_sl]
  rw [if_pos ⟨by omega, by rw [List.length_map]; exact lim_of hl, trivial, by omega, by omega⟩, Int.toNat_natCast, List.length_map, show (0 : Int) = ((0 : Nat) : Int) from rfl, toS_loop hl (fun i hi cur h1 h2 => ?_) (fun cur => ?_)]
  · rfl
  · have key := hs vs[i] (List.getElem_mem hi) (by have := wtV_mem (List.mem_map_of_mem (f := TValue.enc) (List.getElem_mem hi)); omega)
    have hc1 : (i : Int) < (vs.length : Int) := by omega
    simp only [E_laws_toValueSL1, List.getD_cons_zero, List.getD_cons_succ, DC.bb_b, DC.ii_i, DC.ss_s, DC.ll_sl, Int.toNat_natCast, List.length_map, map_getD hi, h1, h2, TValue.enc_eq] at key ⊢
    simp only [key, List.getD_cons_zero, List.getD_cons_succ, DC.bb_b, DC.ii_i, DC.ss_s, DC.ll_sl, Out.bindR_ret]
    simp [hi, hc1, wrap_succ hi (show vs.length ≤ 9223372036854775807 by omega), setRunD]
  · simp [E_laws_toValueSL1]
theorem to_Value (v : TValue) : wtL (TValue.enc v) ≤ 1048576 → r_laws_toValue [.i v.kind, .s v.text, .sl (v.items.map TValue.enc), .sl (v.names.map S1)] = .ret (TValue.enc v) := by
  induction v using TValue.ind with | h v ih =>
  intro hw
  rw [wsum_Value] at hw
  rw [eq_laws_toValue]
  simp only [E_laws_toValue, List.getD_cons_zero, List.getD_cons_succ, DC.bb_b, DC.ii_i, DC.ss_s, DC.ll_sl]
  rw [toS_Value' v.items (fun x hx => ih x hx) (by omega)]
  simp only [Out.bindR_ret, List.getD_cons_zero, List.getD_cons_succ, DC.bb_b, DC.ii_i, DC.ss_s, DC.ll_sl]
  rw [toS_String v.names (by have h := hw; simp only [DC.wt, List.length_map] at h; omega)]
  simp only [Out.bindR_ret, List.getD_cons_zero, List.getD_cons_succ, DC.bb_b, DC.ii_i, DC.ss_s, DC.ll_sl]
  rw [TValue.enc_eq]
theorem eqS_Value' (vs : List TValue) (hs : ∀ v ∈ vs, wtL (TValue.enc v) ≤ 1048576 → r_laws_eqValue [.i v.kind, .s v.text, .sl (v.items.map TValue.enc), .sl (v.names.map S1), .i v.kind, .s v.text, .sl (v.items.map TValue.enc), .sl (v.names.map S1)] = .ret [.b true]) (hw : DC.wt (.sl (vs.map TValue.enc)) ≤ 1048576) : r_laws_eqValueS [.sl (vs.map TValue.enc), .sl (vs.map TValue.enc)] = .ret [.b true] := by
  rw [DC.wt, List.length_map] at hw
  have hl : vs.length ≤ 1048576 := by omega
  rw [eq_laws_eqValueS]
  simp only [E_laws_eqValueS, List.getD_cons_zero, List.getD_cons_succ, DC.bb_b, DC.ii_i, DC.ss_s, DC.ll_sl]
  refine eqS_all (fun i hi => ?_) ?_
  · rw [List.length_map] at hi
    have key := hs vs[i] (List.getElem_mem hi) (by have := wtV_mem (List.mem_map_of_mem (f := TValue.enc) (List.getElem_mem hi)); omega)
    have hc1 : (i : Int) < (vs.length : Int) := by omega
    simp only [E_laws_eqValueSL1, List.getD_cons_zero, List.getD_cons_succ, DC.bb_b, DC.ii_i, DC.ss_s, DC.ll_sl, Int.toNat_natCast, List.length_map, map_getD hi, TValue.enc_eq] at key ⊢
    simp only [key, List.getD_cons_zero, List.getD_cons_succ, DC.bb_b, DC.ii_i, DC.ss_s, DC.ll_sl, Out.bindR_ret]
    simp [hi, hc1, wrap_succ hi (show vs.length ≤ 9223372036854775807 by omega)]
  · simp [E_laws_eqValueSL1]
theorem eq_Value (v : TValue) : wtL (TValue.enc v) ≤ 1048576 → r_laws_eqValue [.i v.kind, .s v.text, .sl (v.items.map TValue.enc), .sl (v.names.map S1), .i v.kind, .s v.text, .sl (v.items.map TValue.enc), .sl (v.names.map S1)] = .ret [.b true] := by
  induction v using TValue.ind with | h v ih =>
  intro hw
  rw [wsum_Value] at hw
  rw [eq_laws_eqValue]
  simp only [E_laws_eqValue, List.getD_cons_zero, List.getD_cons_succ, DC.bb_b, DC.ii_i, DC.ss_s, DC.ll_sl, bne_self_eq_false, beq_self_eq_true, Bool.not_true, Bool.false_eq_true, if_false]
  rw [eqS_Value' v.items (fun x hx => ih x hx) (by omega)]
  simp only [Out.bindR_ret, List.getD_cons_zero, List.getD_cons_succ, DC.bb_b, DC.ii_i, DC.ss_s, DC.ll_sl, bne_self_eq_false, beq_self_eq_true, Bool.not_true, Bool.false_eq_true, if_false]
  rw [eqS_String v.names (by have h := hw; simp only [DC.wt, List.length_map] at h; omega)]
  simp only [Out.bindR_ret, List.getD_cons_zero, List.getD_cons_succ, DC.bb_b, DC.ii_i, DC.ss_s, DC.ll_sl, bne_self_eq_false, beq_self_eq_true, Bool.not_true, Bool.false_eq_true, if_false]
theorem wsum_Type (v : TType) : wtL (TType.enc v) = v.name.length + v.wraps.length := by
  simp only [TType.enc_eq, wtL, DC.wt]
  try omega
theorem sz_Type (v : TType) : okL (TType.enc v) → ∀ left : Int, 0 ≤ left → left ≤ 1048576 → r_laws_szType [.s v.name, .s v.wraps, .i left] = .ret [.i (szR left (wtL (TType.enc v)))] := by
  intro ok left h0 h1
  rw [TType.enc_eq] at ok
  simp only [okL] at ok
  rw [eq_laws_szType]
  simp only [E_laws_szType, List.getD_cons_zero, List.getD_cons_succ, DC.bb_b, DC.ii_i, DC.ss_s, DC.ll_sl]
  rw [wsum_Type]
  have b0 : v.name.length ≤ 9223372036854775807 := by simpa only [DC.ok] using ok.1
  have b1 : v.wraps.length ≤ 9223372036854775807 := by simpa only [DC.ok] using ok.2.1
  rw [show IntKind.i64.wrap (left - (v.name.length : Int)) = left - (v.name.length : Int) from wrap64 (by omega) (by omega)]
  by_cases c0 : left < ((v.name.length : Nat) : Int)
  · have c0' : left - ((v.name.length : Nat) : Int) < 0 := by omega
    simp only [c0', decide_true, if_true]
    try rw [szR_lt (by omega)]
  have c0' : ¬ left - ((v.name.length : Nat) : Int) < 0 := by omega
  simp only [c0', decide_false, Bool.false_eq_true, if_false]
  rw [show IntKind.i64.wrap ((left - ((v.name.length : Nat) : Int)) - (v.wraps.length : Int)) = (left - ((v.name.length : Nat) : Int)) - (v.wraps.length : Int) from wrap64 (by omega) (by omega)]
  by_cases c1 : (left - ((v.name.length : Nat) : Int)) < ((v.wraps.length : Nat) : Int)
  · have c1' : (left - ((v.name.length : Nat) : Int)) - ((v.wraps.length : Nat) : Int) < 0 := by omega
    simp only [c1', decide_true, if_true]
    try rw [szR_lt (by omega)]
  have c1' : ¬ (left - ((v.name.length : Nat) : Int)) - ((v.wraps.length : Nat) : Int) < 0 := by omega
  simp only [c1', decide_false, Bool.false_eq_true, if_false]
  first
  | done
  | rw [show szR left (v.name.length + v.wraps.length) = ((left - ((v.name.length : Nat) : Int)) - ((v.wraps.length : Nat) : Int)) from (szR_ge (by omega)).trans (by omega)]
theorem to_Type (v : TType) : wtL (TType.enc v) ≤ 1048576 → r_laws_toType [.s v.name, .s v.wraps] = .ret (TType.enc v) := by
  intro hw
  rw [wsum_Type] at hw
  rw [eq_laws_toType]
  simp only [E_laws_toType, List.getD_cons_zero, List.getD_cons_succ, DC.bb_b, DC.ii_i, DC.ss_s, DC.ll_sl]
  rw [TType.enc_eq]
theorem eq_Type (v : TType) : wtL (TType.enc v) ≤ 1048576 → r_laws_eqType [.s v.name, .s v.wraps, .s v.name, .s v.wraps] = .ret [.b true] := by
  intro hw
  rw [wsum_Type] at hw
  rw [eq_laws_eqType]
  simp only [E_laws_eqType, List.getD_cons_zero, List.getD_cons_succ, DC.bb_b, DC.ii_i, DC.ss_s, DC.ll_sl, bne_self_eq_false, beq_self_eq_true, Bool.not_true, Bool.false_eq_true, if_false]
theorem wsum_Arg (v : TArg) : wtL (TArg.enc v) = v.name.length + wtL (TValue.enc v.value) := by
  simp only [TArg.enc_eq, wtL, DC.wt, TValue.enc_eq]
  try omega
theorem sz_Arg (v : TArg) : okL (TArg.enc v) → ∀ left : Int, 0 ≤ left → left ≤ 1048576 → r_laws_szArg [.s v.name, .i v.value.kind, .s v.value.text, .sl (v.value.items.map TValue.enc), .sl (v.value.names.map S1), .i left] = .ret [.i (szR left (wtL (TArg.enc v)))] := by
  intro ok left h0 h1
  rw [TArg.enc_eq] at ok
  simp only [okL] at ok
  rw [eq_laws_szArg]
  simp only [E_laws_szArg, List.getD_cons_zero, List.getD_cons_succ, DC.bb_b, DC.ii_i, DC.ss_s, DC.ll_sl]
  rw [wsum_Arg]
  have b0 : v.name.length ≤ 9223372036854775807 := by simpa only [DC.ok] using ok.1
  rw [show IntKind.i64.wrap (left - (v.name.length : Int)) = left - (v.name.length : Int) from wrap64 (by omega) (by omega)]
  by_cases c0 : left < ((v.name.length : Nat) : Int)
  · have c0' : left - ((v.name.length : Nat) : Int) < 0 := by omega
    simp only [c0', decide_true, if_true]
    try rw [szR_lt (by omega)]
  have c0' : ¬ left - ((v.name.length : Nat) : Int) < 0 := by omega
  simp only [c0', decide_false, Bool.false_eq_true, if_false]
  rw [sz_Value v.value (by rw [TValue.enc_eq]; simp only [okL]; exact ⟨ok.2.1, ok.2.2.1, ok.2.2.2.1, ok.2.2.2.2.1, trivial⟩) ((left - ((v.name.length : Nat) : Int))) (by omega) (by omega)]
  simp only [Out.bindR_ret, List.getD_cons_zero, List.getD_cons_succ, DC.bb_b, DC.ii_i, DC.ss_s, DC.ll_sl]
  by_cases c1 : (left - ((v.name.length : Nat) : Int)) < ((wtL (TValue.enc v.value) : Nat) : Int)
  · rw [szR_lt c1]
    simp only [show (-1 : Int) < 0 by omega, decide_true, if_true]
    try rw [szR_lt (by omega)]
  rw [szR_ge c1]
  have c1' : ¬ (left - ((v.name.length : Nat) : Int)) - ((wtL (TValue.enc v.value) : Nat) : Int) < 0 := by omega
  simp only [c1', decide_false, Bool.false_eq_true, if_false]
  first
  | done
  | rw [show szR left (v.name.length + wtL (TValue.enc v.value)) = ((left - ((v.name.length : Nat) : Int)) - ((wtL (TValue.enc v.value) : Nat) : Int)) from (szR_ge (by omega)).trans (by omega)]
theorem szS_Arg' (vs : List TArg) (hs : ∀ v ∈ vs, okL (TArg.enc v) → ∀ left : Int, 0 ≤ left → left ≤ 1048576 → r_laws_szArg [.s v.name, .i v.value.kind, .s v.value.text, .sl (v.value.items.map TValue.enc), .sl (v.value.names.map S1), .i left] = .ret [.i (szR left (wtL (TArg.enc v)))]) (ok : (DC.sl (vs.map TArg.enc)).ok) (left : Int) (h0 : 0 ≤ left) (h1 : left ≤ 1048576) : r_laws_szArgS [.sl (vs.map TArg.enc), .i left] = .ret [.i (szR left (DC.wt (.sl (vs.map TArg.enc))))] := by
  rw [DC.ok, List.length_map] at ok
  obtain ⟨hl, ok⟩ := ok
  rw [eq_laws_szArgS]
  simp only [E_laws_szArgS, List.getD_cons_zero, List.getD_cons_succ, DC.bb_b, DC.ii_i, DC.ss_s, DC.ll_sl]
  refine szS_all hl (fun i hi left h0 h1 => ?_) (fun left => ?_) h0 h1
  · have key := hs vs[i] (List.getElem_mem hi) (okV_mem ok _ (List.mem_map_of_mem (List.getElem_mem hi))) left h0 h1
    generalize wtL (TArg.enc vs[i]) = w at key ⊢
    have hc1 : (i : Int) < (vs.length : Int) := by omega
    simp only [E_laws_szArgSL1, List.getD_cons_zero, List.getD_cons_succ, DC.bb_b, DC.ii_i, DC.ss_s, DC.ll_sl, Int.toNat_natCast, List.length_map, map_getD hi, TArg.enc_eq, key, Out.bindR_ret]
    by_cases hc : left < (w : Int)
    · simp [hi, hc1, hc, szR_lt hc]
    · simp [hi, hc1, hc, szR_ge hc, show ¬ left - (w : Int) < 0 by omega, wrap_succ hi hl]
  · simp [E_laws_szArgSL1]
theorem szS_Arg (vs : List TArg) (ok : (DC.sl (vs.map TArg.enc)).ok) (left : Int) (h0 : 0 ≤ left) (h1 : left ≤ 1048576) : r_laws_szArgS [.sl (vs.map TArg.enc), .i left] = .ret [.i (szR left (DC.wt (.sl (vs.map TArg.enc))))] := szS_Arg' vs (fun v _ => sz_Arg v) ok left h0 h1
theorem to_Arg (v : TArg) : wtL (TArg.enc v) ≤ 1048576 → r_laws_toArg [.s v.name, .i v.value.kind, .s v.value.text, .sl (v.value.items.map TValue.enc), .sl (v.value.names.map S1)] = .ret (TArg.enc v) := by
  intro hw
  rw [wsum_Arg] at hw
  rw [eq_laws_toArg]
  simp only [E_laws_toArg, List.getD_cons_zero, List.getD_cons_succ, DC.bb_b, DC.ii_i, DC.ss_s, DC.ll_sl]
  rw [to_Value v.value (by omega)]
  simp only [Out.bindR_ret, TValue.enc_eq, List.getD_cons_zero, List.getD_cons_succ, DC.bb_b, DC.ii_i, DC.ss_s, DC.ll_sl]
  rw [TArg.enc_eq]
theorem toS_Arg' (vs : List TArg) (hs : ∀ v ∈ vs, wtL (TArg.enc v) ≤ 1048576 → r_laws_toArg [.s v.name, .i v.value.kind, .s v.value.text, .sl (v.value.items.map TValue.enc), .sl (v.value.names.map S1)] = .ret (TArg.enc v)) (hw : DC.wt (.sl (vs.map TArg.enc)) ≤ 1048576) : r_laws_toArgS [.sl (vs.map TArg.enc)] = .ret [.sl (vs.map TArg.enc)] := by
  rw [DC.wt, List.length_map] at hw
  have hl : vs.length ≤ 1048576 := by omega
  rw [eq_laws_toArgS]
  simp only [E_laws_toArgS, List.getD_cons_zero, List.getD_cons_succ, DC.bb_b, DC.ii_i, DC.ss_s, DC.ll_sl]
  rw [if_pos ⟨by omega, by rw [List.length_map]; exact lim_of hl, trivial, by omega, by omega⟩, Int.toNat_natCast, List.length_map, show (0 : Int) = ((0 : Nat) : Int) from rfl, toS_loop hl (fun i hi cur h1 h2 => ?_) (fun cur => ?_)]
  · rfl
  · have key := hs vs[i] (List.getElem_mem hi) (by have := wtV_mem (List.mem_map_of_mem (f := TArg.enc) (List.getElem_mem hi)); omega)
    have hc1 : (i : Int) < (vs.length : Int) := by omega
    simp only [E_laws_toArgSL1, List.getD_cons_zero, List.getD_cons_succ, DC.bb_b, DC.ii_i, DC.ss_s, DC.ll_sl, Int.toNat_natCast, List.length_map, map_getD hi, h1, h2, TArg.enc_eq] at key ⊢
    simp only [key, List.getD_cons_zero, List.getD_cons_succ, DC.bb_b, DC.ii_i, DC.ss_s, DC.ll_sl, Out.bindR_ret]
    simp [hi, hc1, wrap_succ hi (show vs.length ≤ 9223372036854775807 by omega), setRunD]
  · simp [E_laws_toArgSL1]
theorem toS_Arg (vs : List TArg) (hw : DC.wt (.sl (vs.map TArg.enc)) ≤ 1048576) : r_laws_toArgS [.sl (vs.map TArg.enc)] = .ret [.sl (vs.map TArg.enc)] := toS_Arg' vs (fun v _ => to_Arg v) hw
theorem eq_Arg (v : TArg) : wtL (TArg.enc v) ≤ 1048576 → r_laws_eqArg [.s v.name, .i v.value.kind, .s v.value.text, .sl (v.value.items.map TValue.enc), .sl (v.value.names.map S1), .s v.name, .i v.value.kind, .s v.value.text, .sl (v.value.items.map TValue.enc), .sl (v.value.names.map S1)] = .ret [.b true] := by
  intro hw
  rw [wsum_Arg] at hw
  rw [eq_laws_eqArg]
  simp only [E_laws_eqArg, List.getD_cons_zero, List.getD_cons_succ, DC.bb_b, DC.ii_i, DC.ss_s, DC.ll_sl, bne_self_eq_false, beq_self_eq_true, Bool.not_true, Bool.false_eq_true, if_false]
  rw [eq_Value v.value (by omega)]
  simp only [Out.bindR_ret, List.getD_cons_zero, List.getD_cons_succ, DC.bb_b, DC.ii_i, DC.ss_s, DC.ll_sl, bne_self_eq_false, beq_self_eq_true, Bool.not_true, Bool.false_eq_true, if_false]
theorem eqS_Arg' (vs : List TArg) (hs : ∀ v ∈ vs, wtL (TArg.enc v) ≤ 1048576 → r_laws_eqArg [.s v.name, .i v.value.kind, .s v.value.text, .sl (v.value.items.map TValue.enc), .sl (v.value.names.map S1), .s v.name, .i v.value.kind, .s v.value.text, .sl (v.value.items.map TValue.enc), .sl (v.value.names.map S1)] = .ret [.b true]) (hw : DC.wt (.sl (vs.map TArg.enc)) ≤ 1048576) : r_laws_eqArgS [.sl (vs.map TArg.enc), .sl (vs.map TArg.enc)] = .ret [.b true] := by
  rw [DC.wt, List.length_map] at hw
  have hl : vs.length ≤ 1048576 := by omega
  rw [eq_laws_eqArgS]
  simp only [E_laws_eqArgS, List.getD_cons_zero, List.getD_cons_succ, DC.bb_b, DC.ii_i, DC.ss_s, DC.ll_sl]
  refine eqS_all (fun i hi => ?_) ?_
  · rw [List.length_map] at hi
    have key := hs vs[i] (List.getElem_mem hi) (by have := wtV_mem (List.mem_map_of_mem (f := TArg.enc) (List.getElem_mem hi)); omega)
    have hc1 : (i : Int) < (vs.length : Int) := by omega
    simp only [E_laws_eqArgSL1, List.getD_cons_zero, List.getD_cons_succ, DC.bb_b, DC.ii_i, DC.ss_s, DC.ll_sl, Int.toNat_natCast, List.length_map, map_getD hi, TArg.enc_eq] at key ⊢
    simp only [key, List.getD_cons_zero, List.getD_cons_succ, DC.bb_b, DC.ii_i, DC.ss_s, DC.ll_sl, Out.bindR_ret]
    simp [hi, hc1, wrap_succ hi (show vs.length ≤ 9223372036854775807 by omega)]
  · simp [E_laws_eqArgSL1]
theorem eqS_Arg (vs : List TArg) (hw : DC.wt (.sl (vs.map TArg.enc)) ≤ 1048576) : r_laws_eqArgS [.sl (vs.map TArg.enc), .sl (vs.map TArg.enc)] = .ret [.b true] := eqS_Arg' vs (fun v _ => eq_Arg v) hw
theorem wsum_Dir (v : TDir) : wtL (TDir.enc v) = v.name.length + DC.wt (.sl (v.args.map TArg.enc)) := by
  simp only [TDir.enc_eq, wtL, DC.wt]
  try omega
theorem sz_Dir (v : TDir) : okL (TDir.enc v) → ∀ left : Int, 0 ≤ left → left ≤ 1048576 → r_laws_szDir [.s v.name, .sl (v.args.map TArg.enc), .i left] = .ret [.i (szR left (wtL (TDir.enc v)))] := by
  intro ok left h0 h1
  rw [TDir.enc_eq] at ok
  simp only [okL] at ok
  rw [eq_laws_szDir]
  simp only [E_laws_szDir, List.getD_cons_zero, List.getD_cons_succ, DC.bb_b, DC.ii_i, DC.ss_s, DC.ll_sl]
  rw [wsum_Dir]
  have b0 : v.name.length ≤ 9223372036854775807 := by simpa only [DC.ok] using ok.1
  rw [show IntKind.i64.wrap (left - (v.name.length : Int)) = left - (v.name.length : Int) from wrap64 (by omega) (by omega)]
  by_cases c0 : left < ((v.name.length : Nat) : Int)
  · have c0' : left - ((v.name.length : Nat) : Int) < 0 := by omega
    simp only [c0', decide_true, if_true]
    try rw [szR_lt (by omega)]
  have c0' : ¬ left - ((v.name.length : Nat) : Int) < 0 := by omega
  simp only [c0', decide_false, Bool.false_eq_true, if_false]
  rw [szS_Arg v.args ok.2.1 ((left - ((v.name.length : Nat) : Int))) (by omega) (by omega)]
  simp only [Out.bindR_ret, List.getD_cons_zero, List.getD_cons_succ, DC.bb_b, DC.ii_i, DC.ss_s, DC.ll_sl]
  by_cases c1 : (left - ((v.name.length : Nat) : Int)) < ((DC.wt (.sl (v.args.map TArg.enc)) : Nat) : Int)
  · rw [szR_lt c1]
    simp only [show (-1 : Int) < 0 by omega, decide_true, if_true]
    try rw [szR_lt (by omega)]
  rw [szR_ge c1]
  have c1' : ¬ (left - ((v.name.length : Nat) : Int)) - ((DC.wt (.sl (v.args.map TArg.enc)) : Nat) : Int) < 0 := by omega
  simp only [c1', decide_false, Bool.false_eq_true, if_false]
  first
  | done
  | rw [show szR left (v.name.length + DC.wt (.sl (v.args.map TArg.enc))) = ((left - ((v.name.length : Nat) : Int)) - ((DC.wt (.sl (v.args.map TArg.enc)) : Nat) : Int)) from (szR_ge (by omega)).trans (by omega)]
theorem szS_Dir' (vs : List TDir) (hs : ∀ v ∈ vs, okL (TDir.enc v) → ∀ left : Int, 0 ≤ left → left ≤ 1048576 → r_laws_szDir [.s v.name, .sl (v.args.map TArg.enc), .i left] = .ret [.i (szR left (wtL (TDir.enc v)))]) (ok : (DC.sl (vs.map TDir.enc)).ok) (left : Int) (h0 : 0 ≤ left) (h1 : left ≤ 1048576) : r_laws_szDirS [.sl (vs.map TDir.enc), .i left] = .ret [.i (szR left (DC.wt (.sl (vs.map TDir.enc))))] := by
  rw [DC.ok, List.length_map] at ok
  obtain ⟨hl, ok⟩ := ok
  rw [eq_laws_szDirS]
  simp only [E_laws_szDirS, List.getD_cons_zero, List.getD_cons_succ, DC.bb_b, DC.ii_i, DC.ss_s, DC.ll_sl]
  refine szS_all hl (fun i hi left h0 h1 => ?_) (fun left => ?_) h0 h1
  · have key := hs vs[i] (List.getElem_mem hi) (okV_mem ok _ (List.mem_map_of_mem (List.getElem_mem hi))) left h0 h1
    generalize wtL (TDir.enc vs[i]) = w at key ⊢
    have hc1 : (i : Int) < (vs.length : Int) := by omega
    simp only [E_laws_szDirSL1, List.getD_cons_zero, List.getD_cons_succ, DC.bb_b, DC.ii_i, DC.ss_s, DC.ll_sl, Int.toNat_natCast, List.length_map, map_getD hi, TDir.enc_eq, key, Out.bindR_ret]
    by_cases hc : left < (w : Int)
    · simp [hi, hc1, hc, szR_lt hc]
    · simp [hi, hc1, hc, szR_ge hc, show ¬ left - (w : Int) < 0 by omega, wrap_succ hi hl]
  · simp [E_laws_szDirSL1]
theorem szS_Dir (vs : List TDir) (ok : (DC.sl (vs.map TDir.enc)).ok) (left : Int) (h0 : 0 ≤ left) (h1 : left ≤ 1048576) : r_laws_szDirS [.sl (vs.map TDir.enc), .i left] = .ret [.i (szR left (DC.wt (.sl (vs.map TDir.enc))))] := szS_Dir' vs (fun v _ => sz_Dir v) ok left h0 h1
theorem to_Dir (v : TDir) : wtL (TDir.enc v) ≤ 1048576 → r_laws_toDir [.s v.name, .sl (v.args.map TArg.enc)] = .ret (TDir.enc v) := by
  intro hw
  rw [wsum_Dir] at hw
  rw [eq_laws_toDir]
  simp only [E_laws_toDir, List.getD_cons_zero, List.getD_cons_succ, DC.bb_b, DC.ii_i, DC.ss_s, DC.ll_sl]
  rw [toS_Arg v.args (by omega)]
  simp only [Out.bindR_ret, List.getD_cons_zero, List.getD_cons_succ, DC.bb_b, DC.ii_i, DC.ss_s, DC.ll_sl]
  rw [TDir.enc_eq]
theorem toS_Dir' (vs : List TDir) (hs : ∀ v ∈ vs, wtL (TDir.enc v) ≤ 1048576 → r_laws_toDir [.s v.name, .sl (v.args.map TArg.enc)] = .ret (TDir.enc v)) (hw : DC.wt (.sl (vs.map TDir.enc)) ≤ 1048576) : r_laws_toDirS [.sl (vs.map TDir.enc)] = .ret [.sl (vs.map TDir.enc)] := by
  rw [DC.wt, List.length_map] at hw
  have hl : vs.length ≤ 1048576 := by omega
  rw [eq_laws_toDirS]
  simp only [E_laws_toDirS, List.getD_cons_zero, List.getD_cons_succ, DC.bb_b, DC.ii_i, DC.ss_s, DC.ll_sl]
  rw [if_pos ⟨by omega, by rw [List.length_map]; exact lim_of hl, trivial, by omega, by omega⟩, Int.toNat_natCast, List.length_map, show (0 : Int) = ((0 : Nat) : Int) from rfl, toS_loop hl (fun i hi cur h1 h2 => ?_) (fun cur => ?_)]
  · rfl
  · have key := hs vs[i] (List.getElem_mem hi) (by have := wtV_mem (List.mem_map_of_mem (f := TDir.enc) (List.getElem_mem hi)); omega)
    have hc1 : (i : Int) < (vs.length : Int) := by omega
    simp only [E_laws_toDirSL1, List.getD_cons_zero, List.getD_cons_succ, DC.bb_b, DC.ii_i, DC.ss_s, DC.ll_sl, Int.toNat_natCast, List.length_map, map_getD hi, h1, h2, TDir.enc_eq] at key ⊢
    simp only [key, List.getD_cons_zero, List.getD_cons_succ, DC.bb_b, DC.ii_i, DC.ss_s, DC.ll_sl, Out.bindR_ret]
    simp [hi, hc1, wrap_succ hi (show vs.length ≤ 9223372036854775807 by omega), setRunD]
  · simp [E_laws_toDirSL1]
theorem toS_Dir (vs : List TDir) (hw : DC.wt (.sl (vs.map TDir.enc)) ≤ 1048576) : r_laws_toDirS [.sl (vs.map TDir.enc)] = .ret [.sl (vs.map TDir.enc)] := toS_Dir' vs (fun v _ => to_Dir v) hw
theorem eq_Dir (v : TDir) : wtL (TDir.enc v) ≤ 1048576 → r_laws_eqDir [.s v.name, .sl (v.args.map TArg.enc), .s v.name, .sl (v.args.map TArg.enc)] = .ret [.b true] := by
  intro hw
  rw [wsum_Dir] at hw
  rw [eq_laws_eqDir]
  simp only [E_laws_eqDir, List.getD_cons_zero, List.getD_cons_succ, DC.bb_b, DC.ii_i, DC.ss_s, DC.ll_sl, bne_self_eq_false, beq_self_eq_true, Bool.not_true, Bool.false_eq_true, if_false]
  rw [eqS_Arg v.args (by omega)]
  simp only [Out.bindR_ret, List.getD_cons_zero, List.getD_cons_succ, DC.bb_b, DC.ii_i, DC.ss_s, DC.ll_sl, bne_self_eq_false, beq_self_eq_true, Bool.not_true, Bool.false_eq_true, if_false]
theorem eqS_Dir' (vs : List TDir) (hs : ∀ v ∈ vs, wtL (TDir.enc v) ≤ 1048576 → r_laws_eqDir [.s v.name, .sl (v.args.map TArg.enc), .s v.name, .sl (v.args.map TArg.enc)] = .ret [.b true]) (hw : DC.wt (.sl (vs.map TDir.enc)) ≤ 1048576) : r_laws_eqDirS [.sl (vs.map TDir.enc), .sl (vs.map TDir.enc)] = .ret [.b true] := by
  rw [DC.wt, List.length_map] at hw
  have hl : vs.length ≤ 1048576 := by omega
  rw [eq_laws_eqDirS]
  simp only [E_laws_eqDirS, List.getD_cons_zero, List.getD_cons_succ, DC.bb_b, DC.ii_i, DC.ss_s, DC.ll_sl]
  refine eqS_all (fun i hi => ?_) ?_
  · rw [List.length_map] at hi
    have key := hs vs[i] (List.getElem_mem hi) (by have := wtV_mem (List.mem_map_of_mem (f := TDir.enc) (List.getElem_mem hi)); omega)
    have hc1 : (i : Int) < (vs.length : Int) := by omega
    simp only [E_laws_eqDirSL1, List.getD_cons_zero, List.getD_cons_succ, DC.bb_b, DC.ii_i, DC.ss_s, DC.ll_sl, Int.toNat_natCast, List.length_map, map_getD hi, TDir.enc_eq] at key ⊢
    simp only [key, List.getD_cons_zero, List.getD_cons_succ, DC.bb_b, DC.ii_i, DC.ss_s, DC.ll_sl, Out.bindR_ret]
    simp [hi, hc1, wrap_succ hi (show vs.length ≤ 9223372036854775807 by omega)]
  · simp [E_laws_eqDirSL1]
theorem eqS_Dir (vs : List TDir) (hw : DC.wt (.sl (vs.map TDir.enc)) ≤ 1048576) : r_laws_eqDirS [.sl (vs.map TDir.enc), .sl (vs.map TDir.enc)] = .ret [.b true] := eqS_Dir' vs (fun v _ => eq_Dir v) hw
theorem wsum_Sel (v : TSel) : wtL (TSel.enc v) = v.alias.length + v.name.length + v.on'.length + DC.wt (.sl (v.args.map TArg.enc)) + DC.wt (.sl (v.dirs.map TDir.enc)) + DC.wt (.sl (v.sels.map TSel.enc)) := by
  simp only [TSel.enc_eq, wtL, DC.wt]
  try omega
theorem szS_Sel' (vs : List TSel) (hs : ∀ v ∈ vs, okL (TSel.enc v) → ∀ left : Int, 0 ≤ left → left ≤ 1048576 → r_laws_szSel [.i v.kind, .s v.alias, .s v.name, .s v.on', .sl (v.args.map TArg.enc), .sl (v.dirs.map TDir.enc), .sl (v.sels.map TSel.enc), .i left] = .ret [.i (szR left (wtL (TSel.enc v)))]) (ok : (DC.sl (vs.map TSel.enc)).ok) (left : Int) (h0 : 0 ≤ left) (h1 : left ≤ 1048576) : r_laws_szSelS [.sl (vs.map TSel.enc), .i left] = .ret [.i (szR left (DC.wt (.sl (vs.map TSel.enc))))] := by
  rw [DC.ok, List.length_map] at ok
  obtain ⟨hl, ok⟩ := ok
  rw [eq_laws_szSelS]
  simp only [E_laws_szSelS, List.getD_cons_zero, List.getD_cons_succ, DC.bb_b, DC.ii_i, DC.ss_s, DC.ll_sl]
  refine szS_all hl (fun i hi left h0 h1 => ?_) (fun left => ?_) h0 h1
  · have key := hs vs[i] (List.getElem_mem hi) (okV_mem ok _ (List.mem_map_of_mem (List.getElem_mem hi))) left h0 h1
    generalize wtL (TSel.enc vs[i]) = w at key ⊢
    have hc1 : (i : Int) < (vs.length : Int) := by omega
    simp only [E_laws_szSelSL1, List.getD_cons_zero, List.getD_cons_succ, DC.bb_b, DC.ii_i, DC.ss_s, DC.ll_sl, Int.toNat_natCast, List.length_map, map_getD hi, TSel.enc_eq, key, Out.bindR_ret]
    by_cases hc : left < (w : Int)
    · simp [hi, hc1, hc, szR_lt hc]
    · simp [hi, hc1, hc, szR_ge hc, show ¬ left - (w : Int) < 0 by omega, wrap_succ hi hl]
  · simp [E_laws_szSelSL1]
theorem sz_Sel (v : TSel) : okL (TSel.enc v) → ∀ left : Int, 0 ≤ left → left ≤ 1048576 → r_laws_szSel [.i v.kind, .s v.alias, .s v.name, .s v.on', .sl (v.args.map TArg.enc), .sl (v.dirs.map TDir.enc), .sl (v.sels.map TSel.enc), .i left] = .ret [.i (szR left (wtL (TSel.enc v)))] := by
  induction v using TSel.ind with | h v ih =>
  intro ok left h0 h1
  rw [TSel.enc_eq] at ok
  simp only [okL] at ok
  rw [eq_laws_szSel]
  simp only [E_laws_szSel, List.getD_cons_zero, List.getD_cons_succ, DC.bb_b, DC.ii_i, DC.ss_s, DC.ll_sl]
  rw [wsum_Sel]
  have b0 : v.alias.length ≤ 9223372036854775807 := by simpa only [DC.ok] using ok.2.1
  have b1 : v.name.length ≤ 9223372036854775807 := by simpa only [DC.ok] using ok.2.2.1
  have b2 : v.on'.length ≤ 9223372036854775807 := by simpa only [DC.ok] using ok.2.2.2.1
  rw [show IntKind.i64.wrap (left - (v.alias.length : Int)) = left - (v.alias.length : Int) from wrap64 (by omega) (by omega)]
  by_cases c0 : left < ((v.alias.length : Nat) : Int)
  · have c0' : left - ((v.alias.length : Nat) : Int) < 0 := by omega
    simp only [c0', decide_true, if_true]
    try rw [szR_lt (by omega)]
  have c0' : ¬ left - ((v.alias.length : Nat) : Int) < 0 := by omega
  simp only [c0', decide_false, Bool.false_eq_true, if_false]
  rw [show IntKind.i64.wrap ((left - ((v.alias.length : Nat) : Int)) - (v.name.length : Int)) = (left - ((v.alias.length : Nat) : Int)) - (v.name.length : Int) from wrap64 (by omega) (by omega)]
  by_cases c1 : (left - ((v.alias.length : Nat) : Int)) < ((v.name.length : Nat) : Int)
  · have c1' : (left - ((v.alias.length : Nat) : Int)) - ((v.name.length : Nat) : Int) < 0 := by omega
    simp only [c1', decide_true, if_true]
    try rw [szR_lt (by omega)]
  have c1' : ¬ (left - ((v.alias.length : Nat) : Int)) - ((v.name.length : Nat) : Int) < 0 := by omega
  simp only [c1', decide_false, Bool.false_eq_true, if_false]
  rw [show IntKind.i64.wrap (((left - ((v.alias.length : Nat) : Int)) - ((v.name.length : Nat) : Int)) - (v.on'.length : Int)) = ((left - ((v.alias.length : Nat) : Int)) - ((v.name.length : Nat) : Int)) - (v.on'.length : Int) from wrap64 (by omega) (by omega)]
  by_cases c2 : ((left - ((v.alias.length : Nat) : Int)) - ((v.name.length : Nat) : Int)) < ((v.on'.length : Nat) : Int)
  · have c2' : ((left - ((v.alias.length : Nat) : Int)) - ((v.name.length : Nat) : Int)) - ((v.on'.length : Nat) : Int) < 0 := by omega
    simp only [c2', decide_true, if_true]
    try rw [szR_lt (by omega)]
  have c2' : ¬ ((left - ((v.alias.length : Nat) : Int)) - ((v.name.length : Nat) : Int)) - ((v.on'.length : Nat) : Int) < 0 := by omega
  simp only [c2', decide_false, Bool.false_eq_true, if_false]
  rw [szS_Arg v.args ok.2.2.2.2.1 ((((left - ((v.alias.length : Nat) : Int)) - ((v.name.length : Nat) : Int)) - ((v.on'.length : Nat) : Int))) (by omega) (by omega)]
  simp only [Out.bindR_ret, List.getD_cons_zero, List.getD_cons_succ, DC.bb_b, DC.ii_i, DC.ss_s, DC.ll_sl]
  by_cases c3 : (((left - ((v.alias.length : Nat) : Int)) - ((v.name.length : Nat) : Int)) - ((v.on'.length : Nat) : Int)) < ((DC.wt (.sl (v.args.map TArg.enc)) : Nat) : Int)
  · rw [szR_lt c3]
    simp only [show (-1 : Int) < 0 by omega, decide_true, if_true]
    try rw [szR_lt (by omega)]
  rw [szR_ge c3]
  have c3' : ¬ (((left - ((v.alias.length : Nat) : Int)) - ((v.name.length : Nat) : Int)) - ((v.on'.length : Nat) : Int)) - ((DC.wt (.sl (v.args.map TArg.enc)) : Nat) : Int) < 0 := by omega
  simp only [c3', decide_false, Bool.false_eq_true, if_false]
  rw [szS_Dir v.dirs ok.2.2.2.2.2.1 (((((left - ((v.alias.length : Nat) : Int)) - ((v.name.length : Nat) : Int)) - ((v.on'.length : Nat) : Int)) - ((DC.wt (.sl (v.args.map TArg.enc)) : Nat) : Int))) (by omega) (by omega)]
  simp only [Out.bindR_ret, List.getD_cons_zero, List.getD_cons_succ, DC.bb_b, DC.ii_i, DC.ss_s, DC.ll_sl]
  by_cases c4 : ((((left - ((v.alias.length : Nat) : Int)) - ((v.name.length : Nat) : Int)) - ((v.on'.length : Nat) : Int)) - ((DC.wt (.sl (v.args.map TArg.enc)) : Nat) : Int)) < ((DC.wt (.sl (v.dirs.map TDir.enc)) : Nat) : Int)
  · rw [szR_lt c4]
    simp only [show (-1 : Int) < 0 by omega, decide_true, if_true]
    try rw [szR_lt (by omega)]
  rw [szR_ge c4]
  have c4' : ¬ ((((left - ((v.alias.length : Nat) : Int)) - ((v.name.length : Nat) : Int)) - ((v.on'.length : Nat) : Int)) - ((DC.wt (.sl (v.args.map TArg.enc)) : Nat) : Int)) - ((DC.wt (.sl (v.dirs.map TDir.enc)) : Nat) : Int) < 0 := by omega
  simp only [c4', decide_false, Bool.false_eq_true, if_false]
  rw [szS_Sel' v.sels (fun x hx => ih x hx) ok.2.2.2.2.2.2.1 ((((((left - ((v.alias.length : Nat) : Int)) - ((v.name.length : Nat) : Int)) - ((v.on'.length : Nat) : Int)) - ((DC.wt (.sl (v.args.map TArg.enc)) : Nat) : Int)) - ((DC.wt (.sl (v.dirs.map TDir.enc)) : Nat) : Int))) (by omega) (by omega)]
  simp only [Out.bindR_ret, List.getD_cons_zero, List.getD_cons_succ, DC.bb_b, DC.ii_i, DC.ss_s, DC.ll_sl]
  by_cases c5 : (((((left - ((v.alias.length : Nat) : Int)) - ((v.name.length : Nat) : Int)) - ((v.on'.length : Nat) : Int)) - ((DC.wt (.sl (v.args.map TArg.enc)) : Nat) : Int)) - ((DC.wt (.sl (v.dirs.map TDir.enc)) : Nat) : Int)) < ((DC.wt (.sl (v.sels.map TSel.enc)) : Nat) : Int)
  · rw [szR_lt c5]
    simp only [show (-1 : Int) < 0 by omega, decide_true, if_true]
    try rw [szR_lt (by omega)]
  rw [szR_ge c5]
  have c5' : ¬ (((((left - ((v.alias.length : Nat) : Int)) - ((v.name.length : Nat) : Int)) - ((v.on'.length : Nat) : Int)) - ((DC.wt (.sl (v.args.map TArg.enc)) : Nat) : Int)) - ((DC.wt (.sl (v.dirs.map TDir.enc)) : Nat) : Int)) - ((DC.wt (.sl (v.sels.map TSel.enc)) : Nat) : Int) < 0 := by omega
  simp only [c5', decide_false, Bool.false_eq_true, if_false]
  first
  | done
  | rw [show szR left (v.alias.length + v.name.length + v.on'.length + DC.wt (.sl (v.args.map TArg.enc)) + DC.wt (.sl (v.dirs.map TDir.enc)) + DC.wt (.sl (v.sels.map TSel.enc))) = ((((((left - ((v.alias.length : Nat) : Int)) - ((v.name.length : Nat) : Int)) - ((v.on'.length : Nat) : Int)) - ((DC.wt (.sl (v.args.map TArg.enc)) : Nat) : Int)) - ((DC.wt (.sl (v.dirs.map TDir.enc)) : Nat) : Int)) - ((DC.wt (.sl (v.sels.map TSel.enc)) : Nat) : Int)) from (szR_ge (by omega)).trans (by omega)]
theorem szS_Sel (vs : List TSel) (ok : (DC.sl (vs.map TSel.enc)).ok) (left : Int) (h0 : 0 ≤ left) (h1 : left ≤ 1048576) : r_laws_szSelS [.sl (vs.map TSel.enc), .i left] = .ret [.i (szR left (DC.wt (.sl (vs.map TSel.enc))))] := szS_Sel' vs (fun v _ => sz_Sel v) ok left h0 h1
theorem toS_Sel' (vs : List TSel) (hs : ∀ v ∈ vs, wtL (TSel.enc v) ≤ 1048576 → r_laws_toSel [.i v.kind, .s v.alias, .s v.name, .s v.on', .sl (v.args.map TArg.enc), .sl (v.dirs.map TDir.enc), .sl (v.sels.map TSel.enc)] = .ret (TSel.enc v)) (hw : DC.wt (.sl (vs.map TSel.enc)) ≤ 1048576) : r_laws_toSelS [.sl (vs.map TSel.enc)] = .ret [.sl (vs.map TSel.enc)] := by
  rw [DC.wt, List.length_map] at hw
  have hl : vs.length ≤ 1048576 := by omega
  rw [eq_laws_toSelS]
  simp only [E_laws_toSelS, List.getD_cons_zero, List.getD_cons_succ, DC.bb_b, DC.ii_i, DC.ss_s, DC.ll_sl]
  rw [if_pos ⟨by omega, by rw [List.length_map]; exact lim_of hl, trivial, by omega, by omega⟩, Int.toNat_natCast, List.length_map, show (0 : Int) = ((0 : Nat) : Int) from rfl, toS_loop hl (fun i hi cur h1 h2 => ?_) (fun cur => ?_)]
  · rfl
  · have key := hs vs[i] (List.getElem_mem hi) (by have := wtV_mem (List.mem_map_of_mem (f := TSel.enc) (List.getElem_mem hi)); omega)
    have hc1 : (i : Int) < (vs.length : Int) := by omega
    simp only [E_laws_toSelSL1, List.getD_cons_zero, List.getD_cons_succ, DC.bb_b, DC.ii_i, DC.ss_s, DC.ll_sl, Int.toNat_natCast, List.length_map, map_getD hi, h1, h2, TSel.enc_eq] at key ⊢
    simp only [key, List.getD_cons_zero, List.getD_cons_succ, DC.bb_b, DC.ii_i, DC.ss_s, DC.ll_sl, Out.bindR_ret]
    simp [hi, hc1, wrap_succ hi (show vs.length ≤ 9223372036854775807 by omega), setRunD]
  · simp [E_laws_toSelSL1]
theorem to_Sel (v : TSel) : wtL (TSel.enc v) ≤ 1048576 → r_laws_toSel [.i v.kind, .s v.alias, .s v.name, .s v.on', .sl (v.args.map TArg.enc), .sl (v.dirs.map TDir.enc), .sl (v.sels.map TSel.enc)] = .ret (TSel.enc v) := by
  induction v using TSel.ind with | h v ih =>
  intro hw
  rw [wsum_Sel] at hw
  rw [eq_laws_toSel]
  simp only [E_laws_toSel, List.getD_cons_zero, List.getD_cons_succ, DC.bb_b, DC.ii_i, DC.ss_s, DC.ll_sl]
  rw [toS_Arg v.args (by omega)]
  simp only [Out.bindR_ret, List.getD_cons_zero, List.getD_cons_succ, DC.bb_b, DC.ii_i, DC.ss_s, DC.ll_sl]
  rw [toS_Dir v.dirs (by omega)]
  simp only [Out.bindR_ret, List.getD_cons_zero, List.getD_cons_succ, DC.bb_b, DC.ii_i, DC.ss_s, DC.ll_sl]
  rw [toS_Sel' v.sels (fun x hx => ih x hx) (by omega)]
  simp only [Out.bindR_ret, List.getD_cons_zero, List.getD_cons_succ, DC.bb_b, DC.ii_i, DC.ss_s, DC.ll_sl]
  rw [TSel.enc_eq]
theorem toS_Sel (vs : List TSel) (hw : DC.wt (.sl (vs.map TSel.enc)) ≤ 1048576) : r_laws_toSelS [.sl (vs.map TSel.enc)] = .ret [.sl (vs.map TSel.enc)] := toS_Sel' vs (fun v _ => to_Sel v) hw
theorem eqS_Sel' (vs : List TSel) (hs : ∀ v ∈ vs, wtL (TSel.enc v) ≤ 1048576 → r_laws_eqSel [.i v.kind, .s v.alias, .s v.name, .s v.on', .sl (v.args.map TArg.enc), .sl (v.dirs.map TDir.enc), .sl (v.sels.map TSel.enc), .i v.kind, .s v.alias, .s v.name, .s v.on', .sl (v.args.map TArg.enc), .sl (v.dirs.map TDir.enc), .sl (v.sels.map TSel.enc)] = .ret [.b true]) (hw : DC.wt (.sl (vs.map TSel.enc)) ≤ 1048576) : r_laws_eqSelS [.sl (vs.map TSel.enc), .sl (vs.map TSel.enc)] = .ret [.b true] := by
  rw [DC.wt, List.length_map] at hw
  have hl : vs.length ≤ 1048576 := by omega
  rw [eq_laws_eqSelS]
  simp only [E_laws_eqSelS, List.getD_cons_zero, List.getD_cons_succ, DC.bb_b, DC.ii_i, DC.ss_s, DC.ll_sl]
  refine eqS_all (fun i hi => ?_) ?_
  · rw [List.length_map] at hi
    have key := hs vs[i] (List.getElem_mem hi) (by have := wtV_mem (List.mem_map_of_mem (f := TSel.enc) (List.getElem_mem hi)); omega)
    have hc1 : (i : Int) < (vs.length : Int) := by omega
    simp only [E_laws_eqSelSL1, List.getD_cons_zero, List.getD_cons_succ, DC.bb_b, DC.ii_i, DC.ss_s, DC.ll_sl, Int.toNat_natCast, List.length_map, map_getD hi, TSel.enc_eq] at key ⊢
    simp only [key, List.getD_cons_zero, List.getD_cons_succ, DC.bb_b, DC.ii_i, DC.ss_s, DC.ll_sl, Out.bindR_ret]
    simp [hi, hc1, wrap_succ hi (show vs.length ≤ 9223372036854775807 by omega)]
  · simp [E_laws_eqSelSL1]
theorem eq_Sel (v : TSel) : wtL (TSel.enc v) ≤ 1048576 → r_laws_eqSel [.i v.kind, .s v.alias, .s v.name, .s v.on', .sl (v.args.map TArg.enc), .sl (v.dirs.map TDir.enc), .sl (v.sels.map TSel.enc), .i v.kind, .s v.alias, .s v.name, .s v.on', .sl (v.args.map TArg.enc), .sl (v.dirs.map TDir.enc), .sl (v.sels.map TSel.enc)] = .ret [.b true] := by
  induction v using TSel.ind with | h v ih =>
  intro hw
  rw [wsum_Sel] at hw
  rw [eq_laws_eqSel]
  simp only [E_laws_eqSel, List.getD_cons_zero, List.getD_cons_succ, DC.bb_b, DC.ii_i, DC.ss_s, DC.ll_sl, bne_self_eq_false, beq_self_eq_true, Bool.not_true, Bool.false_eq_true, if_false]
  rw [eqS_Arg v.args (by omega)]
  simp only [Out.bindR_ret, List.getD_cons_zero, List.getD_cons_succ, DC.bb_b, DC.ii_i, DC.ss_s, DC.ll_sl, bne_self_eq_false, beq_self_eq_true, Bool.not_true, Bool.false_eq_true, if_false]
  rw [eqS_Dir v.dirs (by omega)]
  simp only [Out.bindR_ret, List.getD_cons_zero, List.getD_cons_succ, DC.bb_b, DC.ii_i, DC.ss_s, DC.ll_sl, bne_self_eq_false, beq_self_eq_true, Bool.not_true, Bool.false_eq_true, if_false]
  rw [eqS_Sel' v.sels (fun x hx => ih x hx) (by omega)]
  simp only [Out.bindR_ret, List.getD_cons_zero, List.getD_cons_succ, DC.bb_b, DC.ii_i, DC.ss_s, DC.ll_sl, bne_self_eq_false, beq_self_eq_true, Bool.not_true, Bool.false_eq_true, if_false]
theorem eqS_Sel (vs : List TSel) (hw : DC.wt (.sl (vs.map TSel.enc)) ≤ 1048576) : r_laws_eqSelS [.sl (vs.map TSel.enc), .sl (vs.map TSel.enc)] = .ret [.b true] := eqS_Sel' vs (fun v _ => eq_Sel v) hw
theorem wsum_VarDef (v : TVarDef) : wtL (TVarDef.enc v) = v.name.length + wtL (TType.enc v.type') + wtL (TValue.enc v.default') + DC.wt (.sl (v.dirs.map TDir.enc)) := by
  simp only [TVarDef.enc_eq, wtL, DC.wt, TType.enc_eq, TValue.enc_eq]
  try omega
theorem sz_VarDef (v : TVarDef) : okL (TVarDef.enc v) → ∀ left : Int, 0 ≤ left → left ≤ 1048576 → r_laws_szVarDef [.s v.name, .s v.type'.name, .s v.type'.wraps, .b v.has', .i v.default'.kind, .s v.default'.text, .sl (v.default'.items.map TValue.enc), .sl (v.default'.names.map S1), .sl (v.dirs.map TDir.enc), .i left] = .ret [.i (szR left (wtL (TVarDef.enc v)))] := by
  intro ok left h0 h1
  rw [TVarDef.enc_eq] at ok
  simp only [okL] at ok
  rw [eq_laws_szVarDef]
  simp only [E_laws_szVarDef, List.getD_cons_zero, List.getD_cons_succ, DC.bb_b, DC.ii_i, DC.ss_s, DC.ll_sl]
  rw [wsum_VarDef]
  have b0 : v.name.length ≤ 9223372036854775807 := by simpa only [DC.ok] using ok.1
  rw [show IntKind.i64.wrap (left - (v.name.length : Int)) = left - (v.name.length : Int) from wrap64 (by omega) (by omega)]
  by_cases c0 : left < ((v.name.length : Nat) : Int)
  · have c0' : left - ((v.name.length : Nat) : Int) < 0 := by omega
    simp only [c0', decide_true, if_true]
    try rw [szR_lt (by omega)]
  have c0' : ¬ left - ((v.name.length : Nat) : Int) < 0 := by omega
  simp only [c0', decide_false, Bool.false_eq_true, if_false]
  rw [sz_Type v.type' (by rw [TType.enc_eq]; simp only [okL]; exact ⟨ok.2.1, ok.2.2.1, trivial⟩) ((left - ((v.name.length : Nat) : Int))) (by omega) (by omega)]
  simp only [Out.bindR_ret, List.getD_cons_zero, List.getD_cons_succ, DC.bb_b, DC.ii_i, DC.ss_s, DC.ll_sl]
  by_cases c1 : (left - ((v.name.length : Nat) : Int)) < ((wtL (TType.enc v.type') : Nat) : Int)
  · rw [szR_lt c1]
    simp only [show (-1 : Int) < 0 by omega, decide_true, if_true]
    try rw [szR_lt (by omega)]
  rw [szR_ge c1]
  have c1' : ¬ (left - ((v.name.length : Nat) : Int)) - ((wtL (TType.enc v.type') : Nat) : Int) < 0 := by omega
  simp only [c1', decide_false, Bool.false_eq_true, if_false]
  rw [sz_Value v.default' (by rw [TValue.enc_eq]; simp only [okL]; exact ⟨ok.2.2.2.2.1, ok.2.2.2.2.2.1, ok.2.2.2.2.2.2.1, ok.2.2.2.2.2.2.2.1, trivial⟩) (((left - ((v.name.length : Nat) : Int)) - ((wtL (TType.enc v.type') : Nat) : Int))) (by omega) (by omega)]
  simp only [Out.bindR_ret, List.getD_cons_zero, List.getD_cons_succ, DC.bb_b, DC.ii_i, DC.ss_s, DC.ll_sl]
  by_cases c2 : ((left - ((v.name.length : Nat) : Int)) - ((wtL (TType.enc v.type') : Nat) : Int)) < ((wtL (TValue.enc v.default') : Nat) : Int)
  · rw [szR_lt c2]
    simp only [show (-1 : Int) < 0 by omega, decide_true, if_true]
    try rw [szR_lt (by omega)]
  rw [szR_ge c2]
  have c2' : ¬ ((left - ((v.name.length : Nat) : Int)) - ((wtL (TType.enc v.type') : Nat) : Int)) - ((wtL (TValue.enc v.default') : Nat) : Int) < 0 := by omega
  simp only [c2', decide_false, Bool.false_eq_true, if_false]
  rw [szS_Dir v.dirs ok.2.2.2.2.2.2.2.2.1 ((((left - ((v.name.length : Nat) : Int)) - ((wtL (TType.enc v.type') : Nat) : Int)) - ((wtL (TValue.enc v.default') : Nat) : Int))) (by omega) (by omega)]
  simp only [Out.bindR_ret, List.getD_cons_zero, List.getD_cons_succ, DC.bb_b, DC.ii_i, DC.ss_s, DC.ll_sl]
  by_cases c3 : (((left - ((v.name.length : Nat) : Int)) - ((wtL (TType.enc v.type') : Nat) : Int)) - ((wtL (TValue.enc v.default') : Nat) : Int)) < ((DC.wt (.sl (v.dirs.map TDir.enc)) : Nat) : Int)
  · rw [szR_lt c3]
    simp only [show (-1 : Int) < 0 by omega, decide_true, if_true]
    try rw [szR_lt (by omega)]
  rw [szR_ge c3]
  have c3' : ¬ (((left - ((v.name.length : Nat) : Int)) - ((wtL (TType.enc v.type') : Nat) : Int)) - ((wtL (TValue.enc v.default') : Nat) : Int)) - ((DC.wt (.sl (v.dirs.map TDir.enc)) : Nat) : Int) < 0 := by omega
  simp only [c3', decide_false, Bool.false_eq_true, if_false]
  first
  | done
  | rw [show szR left (v.name.length + wtL (TType.enc v.type') + wtL (TValue.enc v.default') + DC.wt (.sl (v.dirs.map TDir.enc))) = ((((left - ((v.name.length : Nat) : Int)) - ((wtL (TType.enc v.type') : Nat) : Int)) - ((wtL (TValue.enc v.default') : Nat) : Int)) - ((DC.wt (.sl (v.dirs.map TDir.enc)) : Nat) : Int)) from (szR_ge (by omega)).trans (by omega)]
theorem szS_VarDef' (vs : List TVarDef) (hs : ∀ v ∈ vs, okL (TVarDef.enc v) → ∀ left : Int, 0 ≤ left → left ≤ 1048576 → r_laws_szVarDef [.s v.name, .s v.type'.name, .s v.type'.wraps, .b v.has', .i v.default'.kind, .s v.default'.text, .sl (v.default'.items.map TValue.enc), .sl (v.default'.names.map S1), .sl (v.dirs.map TDir.enc), .i left] = .ret [.i (szR left (wtL (TVarDef.enc v)))]) (ok : (DC.sl (vs.map TVarDef.enc)).ok) (left : Int) (h0 : 0 ≤ left) (h1 : left ≤ 1048576) : r_laws_szVarDefS [.sl (vs.map TVarDef.enc), .i left] = .ret [.i (szR left (DC.wt (.sl (vs.map TVarDef.enc))))] := by
  rw [DC.ok, List.length_map] at ok
  obtain ⟨hl, ok⟩ := ok
  rw [eq_laws_szVarDefS]
  simp only [E_laws_szVarDefS, List.getD_cons_zero, List.getD_cons_succ, DC.bb_b, DC.ii_i, DC.ss_s, DC.ll_sl]
  refine szS_all hl (fun i hi left h0 h1 => ?_) (fun left => ?_) h0 h1
  · have key := hs vs[i] (List.getElem_mem hi) (okV_mem ok _ (List.mem_map_of_mem (List.getElem_mem hi))) left h0 h1
    generalize wtL (TVarDef.enc vs[i]) = w at key ⊢
    have hc1 : (i : Int) < (vs.length : Int) := by omega
    simp only [E_laws_szVarDefSL1, List.getD_cons_zero, List.getD_cons_succ, DC.bb_b, DC.ii_i, DC.ss_s, DC.ll_sl, Int.toNat_natCast, List.length_map, map_getD hi, TVarDef.enc_eq, key, Out.bindR_ret]
    by_cases hc : left < (w : Int)
    · simp [hi, hc1, hc, szR_lt hc]
    · simp [hi, hc1, hc, szR_ge hc, show ¬ left - (w : Int) < 0 by omega, wrap_succ hi hl]
  · simp [E_laws_szVarDefSL1]
theorem szS_VarDef (vs : List TVarDef) (ok : (DC.sl (vs.map TVarDef.enc)).ok) (left : Int) (h0 : 0 ≤ left) (h1 : left ≤ 1048576) : r_laws_szVarDefS [.sl (vs.map TVarDef.enc), .i left] = .ret [.i (szR left (DC.wt (.sl (vs.map TVarDef.enc))))] := szS_VarDef' vs (fun v _ => sz_VarDef v) ok left h0 h1
theorem to_VarDef (v : TVarDef) : wtL (TVarDef.enc v) ≤ 1048576 → r_laws_toVarDef [.s v.name, .s v.type'.name, .s v.type'.wraps, .b v.has', .i v.default'.kind, .s v.default'.text, .sl (v.default'.items.map TValue.enc), .sl (v.default'.names.map S1), .sl (v.dirs.map TDir.enc)] = .ret (TVarDef.enc v) := by
  intro hw
  rw [wsum_VarDef] at hw
  rw [eq_laws_toVarDef]
  simp only [E_laws_toVarDef, List.getD_cons_zero, List.getD_cons_succ, DC.bb_b, DC.ii_i, DC.ss_s, DC.ll_sl]
  rw [to_Type v.type' (by omega)]
  simp only [Out.bindR_ret, TType.enc_eq, List.getD_cons_zero, List.getD_cons_succ, DC.bb_b, DC.ii_i, DC.ss_s, DC.ll_sl]
  rw [to_Value v.default' (by omega)]
  simp only [Out.bindR_ret, TValue.enc_eq, List.getD_cons_zero, List.getD_cons_succ, DC.bb_b, DC.ii_i, DC.ss_s, DC.ll_sl]
  rw [toS_Dir v.dirs (by omega)]
  simp only [Out.bindR_ret, List.getD_cons_zero, List.getD_cons_succ, DC.bb_b, DC.ii_i, DC.ss_s, DC.ll_sl]
  rw [TVarDef.enc_eq]
theorem toS_VarDef' (vs : List TVarDef) (hs : ∀ v ∈ vs, wtL (TVarDef.enc v) ≤ 1048576 → r_laws_toVarDef [.s v.name, .s v.type'.name, .s v.type'.wraps, .b v.has', .i v.default'.kind, .s v.default'.text, .sl (v.default'.items.map TValue.enc), .sl (v.default'.names.map S1), .sl (v.dirs.map TDir.enc)] = .ret (TVarDef.enc v)) (hw : DC.wt (.sl (vs.map TVarDef.enc)) ≤ 1048576) : r_laws_toVarDefS [.sl (vs.map TVarDef.enc)] = .ret [.sl (vs.map TVarDef.enc)] := by
  rw [DC.wt, List.length_map] at hw
  have hl : vs.length ≤ 1048576 := by omega
  rw [eq_laws_toVarDefS]
  simp only [E_laws_toVarDefS, List.getD_cons_zero, List.getD_cons_succ, DC.bb_b, DC.ii_i, DC.ss_s, DC.ll_sl]
  rw [if_pos ⟨by omega, by rw [List.length_map]; exact lim_of hl, trivial, by omega, by omega⟩, Int.toNat_natCast, List.length_map, show (0 : Int) = ((0 : Nat) : Int) from rfl, toS_loop hl (fun i hi cur h1 h2 => ?_) (fun cur => ?_)]
  · rfl
  · have key := hs vs[i] (List.getElem_mem hi) (by have := wtV_mem (List.mem_map_of_mem (f := TVarDef.enc) (List.getElem_mem hi)); omega)
    have hc1 : (i : Int) < (vs.length : Int) := by omega
    simp only [E_laws_toVarDefSL1, List.getD_cons_zero, List.getD_cons_succ, DC.bb_b, DC.ii_i, DC.ss_s, DC.ll_sl, Int.toNat_natCast, List.length_map, map_getD hi, h1, h2, TVarDef.enc_eq] at key ⊢
    simp only [key, List.getD_cons_zero, List.getD_cons_succ, DC.bb_b, DC.ii_i, DC.ss_s, DC.ll_sl, Out.bindR_ret]
    simp [hi, hc1, wrap_succ hi (show vs.length ≤ 9223372036854775807 by omega), setRunD]
  · simp [E_laws_toVarDefSL1]
theorem toS_VarDef (vs : List TVarDef) (hw : DC.wt (.sl (vs.map TVarDef.enc)) ≤ 1048576) : r_laws_toVarDefS [.sl (vs.map TVarDef.enc)] = .ret [.sl (vs.map TVarDef.enc)] := toS_VarDef' vs (fun v _ => to_VarDef v) hw
theorem eq_VarDef (v : TVarDef) : wtL (TVarDef.enc v) ≤ 1048576 → r_laws_eqVarDef [.s v.name, .s v.type'.name, .s v.type'.wraps, .b v.has', .i v.default'.kind, .s v.default'.text, .sl (v.default'.items.map TValue.enc), .sl (v.default'.names.map S1), .sl (v.dirs.map TDir.enc), .s v.name, .s v.type'.name, .s v.type'.wraps, .b v.has', .i v.default'.kind, .s v.default'.text, .sl (v.default'.items.map TValue.enc), .sl (v.default'.names.map S1), .sl (v.dirs.map TDir.enc)] = .ret [.b true] := by
  intro hw
  rw [wsum_VarDef] at hw
  rw [eq_laws_eqVarDef]
  simp only [E_laws_eqVarDef, List.getD_cons_zero, List.getD_cons_succ, DC.bb_b, DC.ii_i, DC.ss_s, DC.ll_sl, bne_self_eq_false, beq_self_eq_true, Bool.not_true, Bool.false_eq_true, if_false]
  rw [eq_Type v.type' (by omega)]
  simp only [Out.bindR_ret, List.getD_cons_zero, List.getD_cons_succ, DC.bb_b, DC.ii_i, DC.ss_s, DC.ll_sl, bne_self_eq_false, beq_self_eq_true, Bool.not_true, Bool.false_eq_true, if_false]
  rw [eq_Value v.default' (by omega)]
  simp only [Out.bindR_ret, List.getD_cons_zero, List.getD_cons_succ, DC.bb_b, DC.ii_i, DC.ss_s, DC.ll_sl, bne_self_eq_false, beq_self_eq_true, Bool.not_true, Bool.false_eq_true, if_false]
  rw [eqS_Dir v.dirs (by omega)]
  simp only [Out.bindR_ret, List.getD_cons_zero, List.getD_cons_succ, DC.bb_b, DC.ii_i, DC.ss_s, DC.ll_sl, bne_self_eq_false, beq_self_eq_true, Bool.not_true, Bool.false_eq_true, if_false]
theorem eqS_VarDef' (vs : List TVarDef) (hs : ∀ v ∈ vs, wtL (TVarDef.enc v) ≤ 1048576 → r_laws_eqVarDef [.s v.name, .s v.type'.name, .s v.type'.wraps, .b v.has', .i v.default'.kind, .s v.default'.text, .sl (v.default'.items.map TValue.enc), .sl (v.default'.names.map S1), .sl (v.dirs.map TDir.enc), .s v.name, .s v.type'.name, .s v.type'.wraps, .b v.has', .i v.default'.kind, .s v.default'.text, .sl (v.default'.items.map TValue.enc), .sl (v.default'.names.map S1), .sl (v.dirs.map TDir.enc)] = .ret [.b true]) (hw : DC.wt (.sl (vs.map TVarDef.enc)) ≤ 1048576) : r_laws_eqVarDefS [.sl (vs.map TVarDef.enc), .sl (vs.map TVarDef.enc)] = .ret [.b true] := by
  rw [DC.wt, List.length_map] at hw
  have hl : vs.length ≤ 1048576 := by omega
  rw [eq_laws_eqVarDefS]
  simp only [E_laws_eqVarDefS, List.getD_cons_zero, List.getD_cons_succ, DC.bb_b, DC.ii_i, DC.ss_s, DC.ll_sl]
  refine eqS_all (fun i hi => ?_) ?_
  · rw [List.length_map] at hi
    have key := hs vs[i] (List.getElem_mem hi) (by have := wtV_mem (List.mem_map_of_mem (f := TVarDef.enc) (List.getElem_mem hi)); omega)
    have hc1 : (i : Int) < (vs.length : Int) := by omega
    simp only [E_laws_eqVarDefSL1, List.getD_cons_zero, List.getD_cons_succ, DC.bb_b, DC.ii_i, DC.ss_s, DC.ll_sl, Int.toNat_natCast, List.length_map, map_getD hi, TVarDef.enc_eq] at key ⊢
    simp only [key, List.getD_cons_zero, List.getD_cons_succ, DC.bb_b, DC.ii_i, DC.ss_s, DC.ll_sl, Out.bindR_ret]
    simp [hi, hc1, wrap_succ hi (show vs.length ≤ 9223372036854775807 by omega)]
  · simp [E_laws_eqVarDefSL1]
theorem eqS_VarDef (vs : List TVarDef) (hw : DC.wt (.sl (vs.map TVarDef.enc)) ≤ 1048576) : r_laws_eqVarDefS [.sl (vs.map TVarDef.enc), .sl (vs.map TVarDef.enc)] = .ret [.b true] := eqS_VarDef' vs (fun v _ => eq_VarDef v) hw
theorem wsum_Op (v : TOp) : wtL (TOp.enc v) = v.name.length + DC.wt (.sl (v.vars.map TVarDef.enc)) + DC.wt (.sl (v.dirs.map TDir.enc)) + DC.wt (.sl (v.sels.map TSel.enc)) := by
  simp only [TOp.enc_eq, wtL, DC.wt]
  try omega
theorem sz_Op (v : TOp) : okL (TOp.enc v) → ∀ left : Int, 0 ≤ left → left ≤ 1048576 → r_laws_szOp [.i v.kind, .s v.name, .sl (v.vars.map TVarDef.enc), .sl (v.dirs.map TDir.enc), .sl (v.sels.map TSel.enc), .i left] = .ret [.i (szR left (wtL (TOp.enc v)))] := by
  intro ok left h0 h1
  rw [TOp.enc_eq] at ok
  simp only [okL] at ok
  rw [eq_laws_szOp]
  simp only [E_laws_szOp, List.getD_cons_zero, List.getD_cons_succ, DC.bb_b, DC.ii_i, DC.ss_s, DC.ll_sl]
  rw [wsum_Op]
  have b0 : v.name.length ≤ 9223372036854775807 := by simpa only [DC.ok] using ok.2.1
  rw [show IntKind.i64.wrap (left - (v.name.length : Int)) = left - (v.name.length : Int) from wrap64 (by omega) (by omega)]
  by_cases c0 : left < ((v.name.length : Nat) : Int)
  · have c0' : left - ((v.name.length : Nat) : Int) < 0 := by omega
    simp only [c0', decide_true, if_true]
    try rw [szR_lt (by omega)]
  have c0' : ¬ left - ((v.name.length : Nat) : Int) < 0 := by omega
  simp only [c0', decide_false, Bool.false_eq_true, if_false]
  rw [szS_VarDef v.vars ok.2.2.1 ((left - ((v.name.length : Nat) : Int))) (by omega) (by omega)]
  simp only [Out.bindR_ret, List.getD_cons_zero, List.getD_cons_succ, DC.bb_b, DC.ii_i, DC.ss_s, DC.ll_sl]
  by_cases c1 : (left - ((v.name.length : Nat) : Int)) < ((DC.wt (.sl (v.vars.map TVarDef.enc)) : Nat) : Int)
  · rw [szR_lt c1]
    simp only [show (-1 : Int) < 0 by omega, decide_true, if_true]
    try rw [szR_lt (by omega)]
  rw [szR_ge c1]
  have c1' : ¬ (left - ((v.name.length : Nat) : Int)) - ((DC.wt (.sl (v.vars.map TVarDef.enc)) : Nat) : Int) < 0 := by omega
  simp only [c1', decide_false, Bool.false_eq_true, if_false]
  rw [szS_Dir v.dirs ok.2.2.2.1 (((left - ((v.name.length : Nat) : Int)) - ((DC.wt (.sl (v.vars.map TVarDef.enc)) : Nat) : Int))) (by omega) (by omega)]
  simp only [Out.bindR_ret, List.getD_cons_zero, List.getD_cons_succ, DC.bb_b, DC.ii_i, DC.ss_s, DC.ll_sl]
  by_cases c2 : ((left - ((v.name.length : Nat) : Int)) - ((DC.wt (.sl (v.vars.map TVarDef.enc)) : Nat) : Int)) < ((DC.wt (.sl (v.dirs.map TDir.enc)) : Nat) : Int)
  · rw [szR_lt c2]
    simp only [show (-1 : Int) < 0 by omega, decide_true, if_true]
    try rw [szR_lt (by omega)]
  rw [szR_ge c2]
  have c2' : ¬ ((left - ((v.name.length : Nat) : Int)) - ((DC.wt (.sl (v.vars.map TVarDef.enc)) : Nat) : Int)) - ((DC.wt (.sl (v.dirs.map TDir.enc)) : Nat) : Int) < 0 := by omega
  simp only [c2', decide_false, Bool.false_eq_true, if_false]
  rw [szS_Sel v.sels ok.2.2.2.2.1 ((((left - ((v.name.length : Nat) : Int)) - ((DC.wt (.sl (v.vars.map TVarDef.enc)) : Nat) : Int)) - ((DC.wt (.sl (v.dirs.map TDir.enc)) : Nat) : Int))) (by omega) (by omega)]
  simp only [Out.bindR_ret, List.getD_cons_zero, List.getD_cons_succ, DC.bb_b, DC.ii_i, DC.ss_s, DC.ll_sl]
  by_cases c3 : (((left - ((v.name.length : Nat) : Int)) - ((DC.wt (.sl (v.vars.map TVarDef.enc)) : Nat) : Int)) - ((DC.wt (.sl (v.dirs.map TDir.enc)) : Nat) : Int)) < ((DC.wt (.sl (v.sels.map TSel.enc)) : Nat) : Int)
  · rw [szR_lt c3]
    simp only [show (-1 : Int) < 0 by omega, decide_true, if_true]
    try rw [szR_lt (by omega)]
  rw [szR_ge c3]
  have c3' : ¬ (((left - ((v.name.length : Nat) : Int)) - ((DC.wt (.sl (v.vars.map TVarDef.enc)) : Nat) : Int)) - ((DC.wt (.sl (v.dirs.map TDir.enc)) : Nat) : Int)) - ((DC.wt (.sl (v.sels.map TSel.enc)) : Nat) : Int) < 0 := by omega
  simp only [c3', decide_false, Bool.false_eq_true, if_false]
  first
  | done
  | rw [show szR left (v.name.length + DC.wt (.sl (v.vars.map TVarDef.enc)) + DC.wt (.sl (v.dirs.map TDir.enc)) + DC.wt (.sl (v.sels.map TSel.enc))) = ((((left - ((v.name.length : Nat) : Int)) - ((DC.wt (.sl (v.vars.map TVarDef.enc)) : Nat) : Int)) - ((DC.wt (.sl (v.dirs.map TDir.enc)) : Nat) : Int)) - ((DC.wt (.sl (v.sels.map TSel.enc)) : Nat) : Int)) from (szR_ge (by omega)).trans (by omega)]
theorem to_Op (v : TOp) : wtL (TOp.enc v) ≤ 1048576 → r_laws_toOp [.i v.kind, .s v.name, .sl (v.vars.map TVarDef.enc), .sl (v.dirs.map TDir.enc), .sl (v.sels.map TSel.enc)] = .ret (TOp.enc v) := by
  intro hw
  rw [wsum_Op] at hw
  rw [eq_laws_toOp]
  simp only [E_laws_toOp, List.getD_cons_zero, List.getD_cons_succ, DC.bb_b, DC.ii_i, DC.ss_s, DC.ll_sl]
  rw [toS_VarDef v.vars (by omega)]
  simp only [Out.bindR_ret, List.getD_cons_zero, List.getD_cons_succ, DC.bb_b, DC.ii_i, DC.ss_s, DC.ll_sl]
  rw [toS_Dir v.dirs (by omega)]
  simp only [Out.bindR_ret, List.getD_cons_zero, List.getD_cons_succ, DC.bb_b, DC.ii_i, DC.ss_s, DC.ll_sl]
  rw [toS_Sel v.sels (by omega)]
  simp only [Out.bindR_ret, List.getD_cons_zero, List.getD_cons_succ, DC.bb_b, DC.ii_i, DC.ss_s, DC.ll_sl]
  rw [TOp.enc_eq]
theorem eq_Op (v : TOp) : wtL (TOp.enc v) ≤ 1048576 → r_laws_eqOp [.i v.kind, .s v.name, .sl (v.vars.map TVarDef.enc), .sl (v.dirs.map TDir.enc), .sl (v.sels.map TSel.enc), .i v.kind, .s v.name, .sl (v.vars.map TVarDef.enc), .sl (v.dirs.map TDir.enc), .sl (v.sels.map TSel.enc)] = .ret [.b true] := by
  intro hw
  rw [wsum_Op] at hw
  rw [eq_laws_eqOp]
  simp only [E_laws_eqOp, List.getD_cons_zero, List.getD_cons_succ, DC.bb_b, DC.ii_i, DC.ss_s, DC.ll_sl, bne_self_eq_false, beq_self_eq_true, Bool.not_true, Bool.false_eq_true, if_false]
  rw [eqS_VarDef v.vars (by omega)]
  simp only [Out.bindR_ret, List.getD_cons_zero, List.getD_cons_succ, DC.bb_b, DC.ii_i, DC.ss_s, DC.ll_sl, bne_self_eq_false, beq_self_eq_true, Bool.not_true, Bool.false_eq_true, if_false]
  rw [eqS_Dir v.dirs (by omega)]
  simp only [Out.bindR_ret, List.getD_cons_zero, List.getD_cons_succ, DC.bb_b, DC.ii_i, DC.ss_s, DC.ll_sl, bne_self_eq_false, beq_self_eq_true, Bool.not_true, Bool.false_eq_true, if_false]
  rw [eqS_Sel v.sels (by omega)]
  simp only [Out.bindR_ret, List.getD_cons_zero, List.getD_cons_succ, DC.bb_b, DC.ii_i, DC.ss_s, DC.ll_sl, bne_self_eq_false, beq_self_eq_true, Bool.not_true, Bool.false_eq_true, if_false]
mutual
theorem wfc_ok {ty : Nat → Option TI} : ∀ {t : CT} {c : DC}, WfC ty t c → c.ok
  | _, _, .b x => by simp [DC.ok]
  | _, _, .i k n _ _ => by simp [DC.ok]
  | _, _, .s l h => by rw [DC.ok]; simpa [maxLen] using h
  | _, _, .sl e te l h1 h2 h3 => by rw [DC.ok]; exact ⟨by simpa [maxLen] using h2, wfv_ok h3⟩
  | _, _, .nil e => by rw [DC.ok]; exact ⟨by simp, by rw [okV]; trivial⟩
theorem wfl_ok {ty : Nat → Option TI} : ∀ {ts : List CT} {x : List DC}, WfL ty ts x → okL x
  | _, _, .nil => by rw [okL]; trivial
  | _, _, .cons t ts x xs h1 h2 => by rw [okL]; exact ⟨wfc_ok h1, wfl_ok h2⟩
theorem wfv_ok {ty : Nat → Option TI} : ∀ {ts : List CT} {l : List (List DC)}, WfV ty ts l → okV l
  | _, _, .nil ts => by rw [okV]; trivial
  | _, _, .cons ts x l h1 h2 => by rw [okV]; exact ⟨wfl_ok h1, wfv_ok h2⟩
end
theorem decV {α : Type} {ty : Nat → Option TI} {enc : α → List DC} {cts : List CT} : ∀ {l : List (List DC)}, (∀ x ∈ l, WfL ty cts x → ∃ v, x = enc v) → WfV ty cts l → ∃ vs : List α, l = vs.map enc
  | [], _, _ => ⟨[], rfl⟩
  | x :: l, h, hw => by
    cases hw with
    | cons ts x l h1 h2 =>
      obtain ⟨v, hv⟩ := h x (by simp) h1
      obtain ⟨vs, hvs⟩ := decV (fun y hy => h y (by simp [hy])) h2
      exact ⟨v :: vs, by rw [List.map_cons, hv, hvs]⟩
theorem decC {α : Type} {ty : Nat → Option TI} {enc : α → List DC} {e : Nat} {te : TI} {c : DC} (hte : ty e = some te) (h : ∀ l, c = .sl l → ∀ x ∈ l, WfL ty te.cts x → ∃ v, x = enc v) (hw : WfC ty (.sl e) c) : ∃ vs : List α, c = .sl (vs.map enc) := by
  cases hw with
  | sl e te' l h1 h2 h3 =>
    rw [hte] at h1
    obtain rfl := Option.some.inj h1
    obtain ⟨vs, hvs⟩ := decV (h l rfl) h3
    exact ⟨vs, by rw [hvs]⟩
  | nil => exact ⟨[], rfl⟩
theorem dec_i {ty : Nat → Option TI} {k : IntKind} {c : DC} (h : WfC ty (.i k) c) : ∃ n, c = .i n ∧ k.min ≤ n ∧ n ≤ k.max := by
  cases h with
  | i k n h1 h2 => exact ⟨n, rfl, h1, h2⟩
theorem dec_b {ty : Nat → Option TI} {c : DC} (h : WfC ty .b c) : ∃ n, c = .b n := by cases h; exact ⟨_, rfl⟩
theorem dec_s {ty : Nat → Option TI} {c : DC} (h : WfC ty .s c) : ∃ n, c = .s n := by cases h; exact ⟨_, rfl⟩
theorem dec_S1 {ty : Nat → Option TI} {x : List DC} (h : WfL ty [.s] x) : ∃ n, x = S1 n := by
  cases h with
  | cons t ts x xs h1 h2 =>
    cases h2
    obtain ⟨n, rfl⟩ := dec_s h1
    exact ⟨n, rfl⟩
theorem wfl_cons {ty : Nat → Option TI} {t : CT} {ts : List CT} {x : List DC} (h : WfL ty (t :: ts) x) : ∃ c xs, x = c :: xs ∧ WfC ty t c ∧ WfL ty ts xs := by
  cases h with
  | cons t ts x xs h1 h2 => exact ⟨x, xs, rfl, h1, h2⟩
theorem wfl_nil {ty : Nat → Option TI} {x : List DC} (h : WfL ty [] x) : x = [] := by cases h; rfl
theorem mem_row_lt {l : List (List DC)} {x : List DC} (h : x ∈ l) : SizeOf.sizeOf x < SizeOf.sizeOf (DC.sl l) := by
  have := List.sizeOf_lt_of_mem h
  simp only [DC.sl.sizeOf_spec]
  omega
theorem tyS : cfg.ty 9 = some ⟨.str, [.s], 16, [], false⟩ := by kernel_rfl
theorem ty_Value : cfg.ty 34 = some ⟨.struct, [.i .i64, .s, .sl 34, .sl 9], 72, [(0, 1, false), (1, 1, false), (2, 1, false), (3, 1, false)], false⟩ := by kernel_rfl
theorem dec_Value {x : List DC} (h0 : WfL cfg.ty [.i .i64, .s, .sl 34, .sl 9] x) : ∃ v : TValue, x = TValue.enc v := by
  have h := h0
  obtain ⟨c0, r0, e0, w0, h⟩ := wfl_cons h
  obtain ⟨n0, rfl, _, _⟩ := dec_i w0
  obtain ⟨c1, r1, e1, w1, h⟩ := wfl_cons h
  obtain ⟨n1, rfl⟩ := dec_s w1
  obtain ⟨c2, r2, e2, w2, h⟩ := wfl_cons h
  have hrec2 : ∀ l, c2 = .sl l → ∀ y ∈ l, WfL cfg.ty [.i .i64, .s, .sl 34, .sl 9] y → ∃ v : TValue, y = TValue.enc v := fun l hl y hy hw => by
    have hlt : SizeOf.sizeOf y < SizeOf.sizeOf x := by
      have := mem_row_lt hy
      rw [← hl] at this
      subst e0 e1 e2
      simp only [List.cons.sizeOf_spec]
      omega
    exact dec_Value hw
  obtain ⟨n2, rfl⟩ := decC (enc := TValue.enc) ty_Value hrec2 w2
  obtain ⟨c3, r3, e3, w3, h⟩ := wfl_cons h
  obtain ⟨n3, rfl⟩ := decC (enc := S1) tyS (fun l _ y hy hw => dec_S1 hw) w3
  have hn := wfl_nil h
  refine ⟨⟨n0, n1, n2, n3⟩, ?_⟩
  rw [TValue.enc_eq]
  subst hn
  simp only [e0, e1, e2, e3]
termination_by SizeOf.sizeOf x
theorem ty_Arg : cfg.ty 186 = some ⟨.struct, [.s, .i .i64, .s, .sl 34, .sl 9], 88, [(0, 1, false), (1, 4, true)], false⟩ := by kernel_rfl
theorem dec_Arg {x : List DC} (h0 : WfL cfg.ty [.s, .i .i64, .s, .sl 34, .sl 9] x) : ∃ v : TArg, x = TArg.enc v := by
  have h := h0
  obtain ⟨c0, r0, e0, w0, h⟩ := wfl_cons h
  obtain ⟨n0, rfl⟩ := dec_s w0
  obtain ⟨c1, r1, e1, w1, h⟩ := wfl_cons h
  obtain ⟨n1, rfl, _, _⟩ := dec_i w1
  obtain ⟨c2, r2, e2, w2, h⟩ := wfl_cons h
  obtain ⟨n2, rfl⟩ := dec_s w2
  obtain ⟨c3, r3, e3, w3, h⟩ := wfl_cons h
  obtain ⟨n3, rfl⟩ := decC (enc := TValue.enc) ty_Value (fun l _ y hy hw => dec_Value hw) w3
  obtain ⟨c4, r4, e4, w4, h⟩ := wfl_cons h
  obtain ⟨n4, rfl⟩ := decC (enc := S1) tyS (fun l _ y hy hw => dec_S1 hw) w4
  have hn := wfl_nil h
  refine ⟨⟨n0, ⟨n1, n2, n3, n4⟩⟩, ?_⟩
  rw [TArg.enc_eq]
  subst hn
  simp only [e0, e1, e2, e3, e4]
theorem ty_Dir : cfg.ty 146 = some ⟨.struct, [.s, .sl 186], 40, [(0, 1, false), (1, 1, false)], false⟩ := by kernel_rfl
theorem dec_Dir {x : List DC} (h0 : WfL cfg.ty [.s, .sl 186] x) : ∃ v : TDir, x = TDir.enc v := by
  have h := h0
  obtain ⟨c0, r0, e0, w0, h⟩ := wfl_cons h
  obtain ⟨n0, rfl⟩ := dec_s w0
  obtain ⟨c1, r1, e1, w1, h⟩ := wfl_cons h
  obtain ⟨n1, rfl⟩ := decC (enc := TArg.enc) ty_Arg (fun l _ y hy hw => dec_Arg hw) w1
  have hn := wfl_nil h
  refine ⟨⟨n0, n1⟩, ?_⟩
  rw [TDir.enc_eq]
  subst hn
  simp only [e0, e1]
theorem ty_Sel : cfg.ty 84 = some ⟨.struct, [.i .i64, .s, .s, .s, .sl 186, .sl 146, .sl 84], 128, [(0, 1, false), (1, 1, false), (2, 1, false), (3, 1, false), (4, 1, false), (5, 1, false), (6, 1, false)], false⟩ := by kernel_rfl
theorem dec_Sel {x : List DC} (h0 : WfL cfg.ty [.i .i64, .s, .s, .s, .sl 186, .sl 146, .sl 84] x) : ∃ v : TSel, x = TSel.enc v := by
  have h := h0
  obtain ⟨c0, r0, e0, w0, h⟩ := wfl_cons h
  obtain ⟨n0, rfl, _, _⟩ := dec_i w0
  obtain ⟨c1, r1, e1, w1, h⟩ := wfl_cons h
  obtain ⟨n1, rfl⟩ := dec_s w1
  obtain ⟨c2, r2, e2, w2, h⟩ := wfl_cons h
  obtain ⟨n2, rfl⟩ := dec_s w2
  obtain ⟨c3, r3, e3, w3, h⟩ := wfl_cons h
  obtain ⟨n3, rfl⟩ := dec_s w3
  obtain ⟨c4, r4, e4, w4, h⟩ := wfl_cons h
  obtain ⟨n4, rfl⟩ := decC (enc := TArg.enc) ty_Arg (fun l _ y hy hw => dec_Arg hw) w4
  obtain ⟨c5, r5, e5, w5, h⟩ := wfl_cons h
  obtain ⟨n5, rfl⟩ := decC (enc := TDir.enc) ty_Dir (fun l _ y hy hw => dec_Dir hw) w5
  obtain ⟨c6, r6, e6, w6, h⟩ := wfl_cons h
  have hrec6 : ∀ l, c6 = .sl l → ∀ y ∈ l, WfL cfg.ty [.i .i64, .s, .s, .s, .sl 186, .sl 146, .sl 84] y → ∃ v : TSel, y = TSel.enc v := fun l hl y hy hw => by
    have hlt : SizeOf.sizeOf y < SizeOf.sizeOf x := by
      have := mem_row_lt hy
      rw [← hl] at this
      subst e0 e1 e2 e3 e4 e5 e6
      simp only [List.cons.sizeOf_spec]
      omega
    exact dec_Sel hw
  obtain ⟨n6, rfl⟩ := decC (enc := TSel.enc) ty_Sel hrec6 w6
  have hn := wfl_nil h
  refine ⟨⟨n0, n1, n2, n3, n4, n5, n6⟩, ?_⟩
  rw [TSel.enc_eq]
  subst hn
  simp only [e0, e1, e2, e3, e4, e5, e6]
termination_by SizeOf.sizeOf x
theorem ty_VarDef : cfg.ty 170 = some ⟨.struct, [.s, .s, .s, .b, .i .i64, .s, .sl 34, .sl 9, .sl 146], 152, [(0, 1, false), (1, 2, true), (3, 1, false), (4, 4, true), (8, 1, false)], false⟩ := by kernel_rfl
theorem dec_VarDef {x : List DC} (h0 : WfL cfg.ty [.s, .s, .s, .b, .i .i64, .s, .sl 34, .sl 9, .sl 146] x) : ∃ v : TVarDef, x = TVarDef.enc v := by
  have h := h0
  obtain ⟨c0, r0, e0, w0, h⟩ := wfl_cons h
  obtain ⟨n0, rfl⟩ := dec_s w0
  obtain ⟨c1, r1, e1, w1, h⟩ := wfl_cons h
  obtain ⟨n1, rfl⟩ := dec_s w1
  obtain ⟨c2, r2, e2, w2, h⟩ := wfl_cons h
  obtain ⟨n2, rfl⟩ := dec_s w2
  obtain ⟨c3, r3, e3, w3, h⟩ := wfl_cons h
  obtain ⟨n3, rfl⟩ := dec_b w3
  obtain ⟨c4, r4, e4, w4, h⟩ := wfl_cons h
  obtain ⟨n4, rfl, _, _⟩ := dec_i w4
  obtain ⟨c5, r5, e5, w5, h⟩ := wfl_cons h
  obtain ⟨n5, rfl⟩ := dec_s w5
  obtain ⟨c6, r6, e6, w6, h⟩ := wfl_cons h
  obtain ⟨n6, rfl⟩ := decC (enc := TValue.enc) ty_Value (fun l _ y hy hw => dec_Value hw) w6
  obtain ⟨c7, r7, e7, w7, h⟩ := wfl_cons h
  obtain ⟨n7, rfl⟩ := decC (enc := S1) tyS (fun l _ y hy hw => dec_S1 hw) w7
  obtain ⟨c8, r8, e8, w8, h⟩ := wfl_cons h
  obtain ⟨n8, rfl⟩ := decC (enc := TDir.enc) ty_Dir (fun l _ y hy hw => dec_Dir hw) w8
  have hn := wfl_nil h
  refine ⟨⟨n0, ⟨n1, n2⟩, n3, ⟨n4, n5, n6, n7⟩, n8⟩, ?_⟩
  rw [TVarDef.enc_eq]
  subst hn
  simp only [e0, e1, e2, e3, e4, e5, e6, e7, e8]
theorem dec_Op {x : List DC} (h0 : WfL cfg.ty [.i .i64, .s, .sl 170, .sl 146, .sl 84] x) : ∃ v : TOp, x = TOp.enc v := by
  have h := h0
  obtain ⟨c0, r0, e0, w0, h⟩ := wfl_cons h
  obtain ⟨n0, rfl, _, _⟩ := dec_i w0
  obtain ⟨c1, r1, e1, w1, h⟩ := wfl_cons h
  obtain ⟨n1, rfl⟩ := dec_s w1
  obtain ⟨c2, r2, e2, w2, h⟩ := wfl_cons h
  obtain ⟨n2, rfl⟩ := decC (enc := TVarDef.enc) ty_VarDef (fun l _ y hy hw => dec_VarDef hw) w2
  obtain ⟨c3, r3, e3, w3, h⟩ := wfl_cons h
  obtain ⟨n3, rfl⟩ := decC (enc := TDir.enc) ty_Dir (fun l _ y hy hw => dec_Dir hw) w3
  obtain ⟨c4, r4, e4, w4, h⟩ := wfl_cons h
  obtain ⟨n4, rfl⟩ := decC (enc := TSel.enc) ty_Sel (fun l _ y hy hw => dec_Sel hw) w4
  have hn := wfl_nil h
  refine ⟨⟨n0, n1, n2, n3, n4⟩, ?_⟩
  rw [TOp.enc_eq]
  subst hn
  simp only [e0, e1, e2, e3, e4]
theorem wfl_app {ty : Nat → Option TI} : ∀ {ts1 ts2 : List CT} {x : List DC}, WfL ty (ts1 ++ ts2) x → ∃ y z, x = y ++ z ∧ WfL ty ts1 y ∧ WfL ty ts2 z
  | [], ts2, x, h => ⟨[], x, rfl, .nil, h⟩
  | t :: ts1, ts2, x, h => by
    obtain ⟨c, xs, rfl, h1, h2⟩ := wfl_cons h
    obtain ⟨y, z, rfl, h3, h4⟩ := wfl_app h2
    exact ⟨c :: y, z, rfl, .cons _ _ _ _ h1 h3, h4⟩
theorem law_FnExactOpText (d : List DC) (hd : WfL cfg.ty [.i .i64, .s, .sl 170, .sl 146, .sl 84] d) : r_laws_FnExactOpText d = .ret [.b true] := by
  obtain ⟨y0, z0, e0, w0, hd⟩ := wfl_app (ts1 := [.i .i64, .s, .sl 170, .sl 146, .sl 84]) (ts2 := []) hd
  have hz := wfl_nil hd
  have k0 := wfl_ok w0
  obtain ⟨a0, g0⟩ := dec_Op w0
  subst g0
  subst hz
  subst e0
  rw [eq_laws_FnExactOpText]
  simp only [E_laws_FnExactOpText, TOp.enc_eq, List.cons_append, List.nil_append, List.append_nil, List.getD_cons_zero, List.getD_cons_succ, DC.bb_b, DC.ii_i, DC.ss_s, DC.ll_sl]
  rw [sz_Op a0 k0 (1048576) (by omega) (by omega)]
  simp only [Out.bindR_ret, List.getD_cons_zero, List.getD_cons_succ, DC.bb_b, DC.ii_i, DC.ss_s, DC.ll_sl]
  by_cases s0 : (1048576 : Int) < ((wtL (TOp.enc a0) : Nat) : Int)
  · rw [szR_lt s0]
    rfl
  rw [szR_ge s0]
  have s0' : ¬ (1048576 : Int) - ((wtL (TOp.enc a0) : Nat) : Int) < 0 := by omega
  simp only [s0', decide_false, Bool.false_eq_true, if_false]
  have W0 : wtL (TOp.enc a0) ≤ 1048576 := by omega
  have l0_vars : a0.vars.length ≤ 1048576 := by have h := W0; simp only [TOp.enc_eq, wtL, DC.wt, List.length_map] at h; omega
  have l0_dirs : a0.dirs.length ≤ 1048576 := by have h := W0; simp only [TOp.enc_eq, wtL, DC.wt, List.length_map] at h; omega
  have l0_sels : a0.sels.length ≤ 1048576 := by have h := W0; simp only [TOp.enc_eq, wtL, DC.wt, List.length_map] at h; omega
  have hs := spec_OpText a0 W0
  have hi := impl_OpText a0 W0
  simp only [to_Op a0 W0, eq_Op a0 W0, hs, hi, TOp.enc_eq, List.getD_cons_zero, List.getD_cons_succ, DC.bb_b, DC.ii_i, DC.ss_s, DC.ll_sl, Out.bindR_ret, bne_self_eq_false, beq_self_eq_true, Bool.not_true, Bool.false_eq_true, if_false]
end Go.Proofs.QV
