/- Inputs that need themselves: what both implementations answer. -/
import Derived.Test.YtciandfkncadgaaA4
namespace Go.Proofs.YtciandfkncadgaaV
open Go
set_option linter.unusedVariables false
set_option linter.unusedSimpArgs false
set_option maxRecDepth 100000

theorem nodup_le {α : Type} [DecidableEq α] : ∀ (l m : List α), l.Nodup → (∀ x ∈ l, x ∈ m) → l.length ≤ m.length
  | [], m, _, _ => by simp
  | x :: l, m, hn, hs => by
    rw [List.nodup_cons] at hn
    have hx : x ∈ m := hs x (by simp)
    have := nodup_le l (m.erase x) hn.2 fun y hy => by
      have hne : y ≠ x := fun h => hn.1 (h ▸ hy)
      exact (List.mem_erase_of_ne hne).2 (hs y (by simp [hy]))
    rw [List.length_erase_of_mem hx] at this
    have hp : 0 < m.length := List.length_pos_of_mem hx
    simp only [List.length_cons]
    omega

theorem kind6 {l : List TDef} {n : List UInt8} (h : kindOf l n = 6) : ∃ d, defOf l n = some d ∧ d.kind = 6 := by
  unfold kindOf at h
  cases hd : defOf l n with
  | none => rw [hd] at h; cases hb : builtIn n <;> simp [hb] at h
  | some d => rw [hd] at h; exact ⟨d, rfl, h⟩
theorem kind6' {l : List TDef} {n : List UInt8} (h : ¬ kindOf l n = 6) : ¬ ((defOf l n).getD zDef).kind = 6 := by
  unfold kindOf at h
  cases hd : defOf l n with
  | none => simp [zDef]
  | some d => rw [hd] at h; simpa using h

/-- The names that are told: each once, each an input's. -/
def CInv (l : List TDef) (list : List (List UInt8)) : Prop := list.Nodup ∧ ∀ n ∈ list, kindOf l n = 6

theorem cinv_len {l : List TDef} {list : List (List UInt8)} (h : CInv l list) : list.length ≤ 60 := by
  cases list with
  | nil => simp
  | cons a ar =>
    have h60 : l.length ≤ 60 := by
      obtain ⟨d, hd, _⟩ := kind6 (h.2 a (by simp))
      unfold defOf at hd
      by_cases hc : 60 < l.length
      · simp [hc] at hd
      · omega
    have := nodup_le (a :: ar) (l.map TDef.name) h.1 fun n hn => by
      obtain ⟨d, hd, _⟩ := kind6 (h.2 n hn)
      have hm := defOf_mem hd
      have : d.name = n := by
        unfold defOf at hd
        split at hd
        · simp at hd
        · simpa using List.find?_some hd
      rw [← this]
      exact List.mem_map_of_mem hm
    rw [List.length_map] at this
    omega

/-- One input of an input. -/
def cstep (l : List TDef) (name : List UInt8) (list : List (List UInt8)) (x : TInDef) : Option (List (List UInt8)) :=
  if !(x.type'.wraps == [33]) || x.has' || kindOf l x.type'.name != 6 then some list
  else if x.type'.name == name then none
  else if list.any (· == x.type'.name) then some list else some (list ++ [x.type'.name])

theorem cstep_inv {l : List TDef} {name : List UInt8} {list list' : List (List UInt8)} {x : TInDef} (h : CInv l list) (e : cstep l name list x = some list') : CInv l list' := by
  unfold cstep at e
  split at e
  · simp only [Option.some.injEq] at e; rw [← e]; exact h
  · rename_i hk
    split at e
    · simp at e
    · split at e
      · simp only [Option.some.injEq] at e; rw [← e]; exact h
      · rename_i hn
        simp only [Option.some.injEq] at e
        rw [← e]
        have hk6 : kindOf l x.type'.name = 6 := by
          simp only [Bool.or_eq_true, not_or] at hk
          simpa using hk.2
        have hnm : x.type'.name ∉ list := by
          intro hm
          exact hn (List.any_eq_true.2 ⟨_, hm, by simp⟩)
        refine ⟨?_, fun n hm => ?_⟩
        · rw [List.nodup_append]
          refine ⟨h.1, by simp, fun a ha b hb => ?_⟩
          simp only [List.mem_singleton] at hb
          intro hab
          exact hnm (by rw [← hb, ← hab]; exact ha)
        · rcases List.mem_append.1 hm with hm | hm
          · exact h.2 n hm
          · simp only [List.mem_singleton] at hm; rw [hm]; exact hk6

def cscan (l : List TDef) (name : List UInt8) : List (List UInt8) → List TInDef → Option (List (List UInt8))
  | list, [] => some list
  | list, x :: xs => match cstep l name list x with
    | none => none
    | some list' => cscan l name list' xs

def cf (l : List TDef) (name : List UInt8) : Nat → List (List UInt8) → TInDef → Sum (List (List UInt8)) Out := fun _ list x => match cstep l name list x with | none => .inr (.ret [.b true]) | some list' => .inl list'

theorem goE_cscan {l : List TDef} {name : List UInt8} {fin : List (List UInt8) → Out} : ∀ (xs : List TInDef) (i : Nat) (list : List (List UInt8)), goE (cf l name) fin i list xs = match cscan l name list xs with | none => .ret [.b true] | some list' => fin list'
  | [], i, list => rfl
  | x :: xs, i, list => by
    rw [goE, cscan, cf]
    cases cstep l name list x with
    | none => rfl
    | some list' => exact goE_cscan xs (i + 1) list'

theorem cscan_inv {l : List TDef} {name : List UInt8} : ∀ {xs : List TInDef} {list list' : List (List UInt8)}, CInv l list → cscan l name list xs = some list' → CInv l list' ∧ list.length ≤ list'.length
  | [], list, list', h, e => by
    simp only [cscan, Option.some.injEq] at e
    rw [← e]; exact ⟨h, Nat.le_refl _⟩
  | x :: xs, list, list', h, e => by
    rw [cscan] at e
    cases hc : cstep l name list x with
    | none => rw [hc] at e; simp at e
    | some l1 =>
      rw [hc] at e
      obtain ⟨k1, k2⟩ := cscan_inv (cstep_inv h hc) e
      refine ⟨k1, ?_⟩
      have : list.length ≤ l1.length := by
        unfold cstep at hc
        split at hc
        · simp only [Option.some.injEq] at hc; rw [hc]; exact Nat.le_refl _
        · split at hc
          · simp at hc
          · split at hc
            · simp only [Option.some.injEq] at hc; rw [hc]; exact Nat.le_refl _
            · simp only [Option.some.injEq] at hc; rw [← hc]; simp
      omega

theorem inputs_len {d : TDef} (h : wtL d.enc ≤ 1048576) : d.inputs.length ≤ 1048576 := by
  simp only [TDef.enc_eq, wtL, DC.wt, List.length_map] at h
  omega

theorem spec_inner (l : List TDef) (dd r : List (List DC)) (name : List UInt8) (h : Int) (d : TDef) (hw : DC.wt (.sl (l.map TDef.enc)) ≤ 1048576) (hd : wtL d.enc ≤ 1048576) (list : List (List UInt8)) (hI : CInv l list) :
    Loop E_spec_InCycleL1 [.s name, .sl (list.map S1), .i h, .i 0, .sl (l.map TDef.enc), .sl dd, .sl r, .i d.kind, .b d.ext, .s d.desc, .s d.name, .sl (d.faces.map S1), .sl (d.fields.map TFieldDef.enc), .sl (d.inputs.map TInDef.enc), .sl (d.values.map TEnumDef.enc), .sl (d.roots.map TRoot.enc), .b d.repeat', .sl (d.dirs.map TDir.enc)]
      = match cscan l name list d.inputs with | none => .ret [.b true] | some list' => .ex 2 [.s name, .sl (list'.map S1), .i h, .sl (l.map TDef.enc), .sl dd, .sl r] := by
  have hl := defs_len hw
  have hin := inputs_len hd
  rw [← goE_cscan d.inputs 0 list]
  have := Loop_fold (l := d.inputs) (st := fun (i : Nat) (list : List (List UInt8)) => [.s name, .sl (list.map S1), .i h, .i (i : Int), .sl (l.map TDef.enc), .sl dd, .sl r, .i d.kind, .b d.ext, .s d.desc, .s d.name, .sl (d.faces.map S1), .sl (d.fields.map TFieldDef.enc), .sl (d.inputs.map TInDef.enc), .sl (d.values.map TEnumDef.enc), .sl (d.roots.map TRoot.enc), .b d.repeat', .sl (d.dirs.map TDir.enc)])
    (f := cf l name) (fin := fun list' => .ex 2 [.s name, .sl (list'.map S1), .i h, .sl (l.map TDef.enc), .sl dd, .sl r]) (F := E_spec_InCycleL1) (fun _ list => CInv l list) ?_ ?_ d.inputs.length 0 list (by omega) hI
  · rw [List.drop_zero] at this
    exact this
  · intro i s hi hs
    have hlen := cinv_len hs
    have c1 : (i : Int) < (d.inputs.length : Int) := by omega
    have ww := wrap_succ hi (show d.inputs.length ≤ 9223372036854775807 by omega)
    have e : ∀ o, E_spec_InCycleL1 [.s name, .sl (s.map S1), .i h, .i (i : Int), .sl (l.map TDef.enc), .sl dd, .sl r, .i d.kind, .b d.ext, .s d.desc, .s d.name, .sl (d.faces.map S1), .sl (d.fields.map TFieldDef.enc), .sl (d.inputs.map TInDef.enc), .sl (d.values.map TEnumDef.enc), .sl (d.roots.map TRoot.enc), .b d.repeat', .sl (d.dirs.map TDir.enc)] = o →
        (match cstep l name s d.inputs[i] with | none => Out.ret [.b true] | some s' => .norm [.s name, .sl (s'.map S1), .i h, .i ((i + 1 : Nat) : Int), .sl (l.map TDef.enc), .sl dd, .sl r, .i d.kind, .b d.ext, .s d.desc, .s d.name, .sl (d.faces.map S1), .sl (d.fields.map TFieldDef.enc), .sl (d.inputs.map TInDef.enc), .sl (d.values.map TEnumDef.enc), .sl (d.roots.map TRoot.enc), .b d.repeat', .sl (d.dirs.map TDir.enc)]) = o := by
      intro o ho
      rw [← ho]
      have hlim : s.length + 1 < LIM := by simp only [LIM]; omega
      simp only [E_spec_InCycleL1, List.getD_cons_zero, List.getD_cons_succ, DC.bb_b, DC.ii_i, DC.ss_s, DC.ll_sl, List.length_map, c1, decide_true, if_true, Int.toNat_natCast, map_getD hi, TInDef.enc_eq, spec_KindOf l dd r _ hl, spec_l18Has s _ (show s.length ≤ 1048576 by omega), Out.bindR_ret, cstep]
      have hh := spec_l18Has s d.inputs[i].type'.name (show s.length ≤ 1048576 by omega)
      generalize (d.inputs[i].type'.wraps == [33]) = b1
      generalize d.inputs[i].has' = b2
      generalize (kindOf l d.inputs[i].type'.name != 6) = b3
      generalize s.any (· == d.inputs[i].type'.name) = b5 at hh ⊢
      cases b1 with
      | false => simp [hi, ww]
      | true =>
      cases b2 with
      | true => simp [hi, ww]
      | false =>
      cases b3 with
      | true => simp [hi, ww]
      | false =>
      by_cases hb4 : d.inputs[i].type'.name = name
      · simp [hi, ww, hb4]
      · cases b5 <;> simp [hi, ww, hb4, hh, hlim, S1]
    have e' := e _ rfl
    rw [← e', cf]
    cases hc : cstep l name s d.inputs[i] with
    | none => exact .inr ⟨_, rfl, Out.esc_ret _, rfl⟩
    | some s' => exact .inl ⟨s', rfl, cstep_inv hs hc, rfl⟩
  · intro s hs
    refine ⟨?_, Out.esc_ex _ _⟩
    simp [E_spec_InCycleL1]

def goO (l : List TDef) (name : List UInt8) : Nat → Nat → List (List UInt8) → Bool
  | 0, _, _ => false
  | n + 1, i, list => match list[i]? with
    | none => false
    | some nm => match defOf l nm with
      | none => false
      | some d => match cscan l name list d.inputs with
        | none => true
        | some list' => goO l name n (i + 1) list'

theorem spec_outer (l : List TDef) (dd r : List (List DC)) (name : List UInt8) (hw : DC.wt (.sl (l.map TDef.enc)) ≤ 1048576) : ∀ (n i : Nat) (list : List (List UInt8)), CInv l list → 61 ≤ i + n → i ≤ list.length →
    Loop E_spec_InCycleL2 [.s name, .sl (list.map S1), .i (i : Int), .sl (l.map TDef.enc), .sl dd, .sl r] = if goO l name n i list = true then .ret [.b true] else .ex 0 []
  | 0, i, list, hI, h1, h2 => by have := cinv_len hI; omega
  | n + 1, i, list, hI, h1, h2 => by
    have hlen := cinv_len hI
    by_cases hi : i < list.length
    · have hg : list[i]? = some list[i] := List.getElem?_eq_getElem hi
      obtain ⟨d, hd, hk⟩ := kind6 (hI.2 list[i] (List.getElem_mem hi))
      have c1 : (i : Int) < (list.length : Int) := by omega
      rcases typeAt_cases l list[i] with ⟨t1, t2⟩ | ⟨j, hj, t1, t2, _⟩
      · rw [hd] at t2; simp at t2
      · rw [hd] at t2
        have hdj : d = l[j] := by simpa using t2
        have hdw : wtL d.enc ≤ 1048576 := by rw [hdj]; exact def_wt hw (List.getElem_mem hj)
        have hin := spec_inner l dd r name (i : Int) d hw hdw list hI
        have ww := wrap_succ hi (show list.length ≤ 9223372036854775807 by omega)
        have e : E_spec_InCycleL2 [.s name, .sl (list.map S1), .i (i : Int), .sl (l.map TDef.enc), .sl dd, .sl r] = match cscan l name list d.inputs with | none => .ret [.b true] | some list' => .norm [.s name, .sl (list'.map S1), .i ((i + 1 : Nat) : Int), .sl (l.map TDef.enc), .sl dd, .sl r] := by
          have hmap : (l.map TDef.enc).getD j [] = d.enc := by rw [map_getD hj, hdj]
          have c2 : (j : Int) < (l.length : Int) := by omega
          simp only [E_spec_InCycleL2, List.getD_cons_zero, List.getD_cons_succ, DC.bb_b, DC.ii_i, DC.ss_s, DC.ll_sl, List.length_map, c1, decide_true, if_true, Int.toNat_natCast, map_getD hi, S1, spec_TypeAt l dd r _ (defs_len hw), t1, hmap, Out.bindR_ret]
          rw [TDef.enc_eq] at hmap ⊢
          simp only [List.getD_cons_zero, List.getD_cons_succ, DC.bb_b, DC.ii_i, DC.ss_s, DC.ll_sl, hin]
          have c3 : (0 : Int) ≤ (i : Int) := by omega
          have c4 : (0 : Int) ≤ (j : Int) := by omega
          simp only [c1, c2, c3, c4, and_self, if_true]
          cases cscan l name list d.inputs with
          | none => rfl
          | some list' => simp [ww]
        have hgo : goO l name (n + 1) i list = (match cscan l name list d.inputs with | none => true | some list' => goO l name n (i + 1) list') := by simp only [goO, hg, hd]
        cases hs : cscan l name list d.inputs with
        | none =>
          rw [hs] at e hgo
          rw [Loop_ret e, hgo]
          rfl
        | some list' =>
          rw [hs] at e hgo
          rw [hgo]
          obtain ⟨k1, k2⟩ := cscan_inv hI hs
          rw [Loop_norm e]
          exact spec_outer l dd r name hw n (i + 1) list' k1 (by omega) (by omega)
    · have hg : list[i]? = none := List.getElem?_eq_none (by omega)
      have hgo : goO l name (n + 1) i list = false := by simp only [goO, hg]
      rw [hgo, Loop_ex (r := []) (id := 0)]
      · rfl
      · have c1 : ¬ (i : Int) < (list.length : Int) := by omega
        simp [E_spec_InCycleL2, c1, hi]

/-- Does an input need itself? -/
def inCycle (l : List TDef) (name : List UInt8) : Bool := kindOf l name == 6 && goO l name 61 0 [name]

theorem spec_InCycle (l : List TDef) (d r : List (List DC)) (n : List UInt8) (hw : DC.wt (.sl (l.map TDef.enc)) ≤ 1048576) : r_spec_InCycle [.sl (l.map TDef.enc), .sl d, .sl r, .s n] = .ret [.b (inCycle l n)] := by
  rw [eq_spec_InCycle]
  simp only [E_spec_InCycle, List.getD_cons_zero, List.getD_cons_succ, DC.bb_b, DC.ii_i, DC.ss_s, DC.ll_sl, spec_KindOf l d r _ (defs_len hw), Out.bindR_ret, inCycle]
  by_cases hk : kindOf l n = 6
  · have := spec_outer l d r n hw 61 0 [n] ⟨by simp, by simpa using hk⟩ (by omega) (by omega)
    rw [show ([n].map S1) = [[.s n]] from rfl, show ((0 : Nat) : Int) = 0 from rfl] at this
    rw [hk, this]
    cases goO l n 61 0 [n] <;> simp
  · simp [hk]

theorem impl_inner (l : List TDef) (dd r : List (List DC)) (name : List UInt8) (h : Int) (d : TDef) (hw : DC.wt (.sl (l.map TDef.enc)) ≤ 1048576) (hd : wtL d.enc ≤ 1048576) (list : List (List UInt8)) (hI : CInv l list) :
    Loop E_impl_InCycleL1 [.s name, .sl (list.map S1), .i h, .sl (d.inputs.map TInDef.enc), .i (d.inputs.length : Int), .i 0, .sl (l.map TDef.enc), .sl dd, .sl r]
      = match cscan l name list d.inputs with | none => .ret [.b true] | some list' => .ex 2 [.s name, .sl (list'.map S1), .i h, .sl (l.map TDef.enc), .sl dd, .sl r] := by
  have hl := defs_len hw
  have hin := inputs_len hd
  rw [← goE_cscan d.inputs 0 list]
  have := Loop_fold (l := d.inputs) (st := fun (i : Nat) (list : List (List UInt8)) => [.s name, .sl (list.map S1), .i h, .sl (d.inputs.map TInDef.enc), .i (d.inputs.length : Int), .i (i : Int), .sl (l.map TDef.enc), .sl dd, .sl r])
    (f := cf l name) (fin := fun list' => .ex 2 [.s name, .sl (list'.map S1), .i h, .sl (l.map TDef.enc), .sl dd, .sl r]) (F := E_impl_InCycleL1) (fun _ list => CInv l list) ?_ ?_ d.inputs.length 0 list (by omega) hI
  · rw [List.drop_zero] at this
    exact this
  · intro i s hi hs
    have hlen := cinv_len hs
    have c1 : (i : Int) < (d.inputs.length : Int) := by omega
    have ww := wrap_succ hi (show d.inputs.length ≤ 9223372036854775807 by omega)
    have e : ∀ o, E_impl_InCycleL1 [.s name, .sl (s.map S1), .i h, .sl (d.inputs.map TInDef.enc), .i (d.inputs.length : Int), .i (i : Int), .sl (l.map TDef.enc), .sl dd, .sl r] = o →
        (match cstep l name s d.inputs[i] with | none => Out.ret [.b true] | some s' => .norm [.s name, .sl (s'.map S1), .i h, .sl (d.inputs.map TInDef.enc), .i (d.inputs.length : Int), .i ((i + 1 : Nat) : Int), .sl (l.map TDef.enc), .sl dd, .sl r]) = o := by
      intro o ho
      rw [← ho]
      have hlim : s.length + 1 < LIM := by simp only [LIM]; omega
      simp only [E_impl_InCycleL1, List.getD_cons_zero, List.getD_cons_succ, DC.bb_b, DC.ii_i, DC.ss_s, DC.ll_sl, List.length_map, c1, decide_true, if_true, Int.toNat_natCast, map_getD hi, TInDef.enc_eq, impl_KindOf l dd r _ hl, slices_Contains_string s _ (show s.length ≤ 1048576 by omega), Out.bindR_ret, cstep]
      have hh := slices_Contains_string s d.inputs[i].type'.name (show s.length ≤ 1048576 by omega)
      generalize (d.inputs[i].type'.wraps == [33]) = b1
      generalize d.inputs[i].has' = b2
      generalize (kindOf l d.inputs[i].type'.name != 6) = b3
      generalize s.any (· == d.inputs[i].type'.name) = b5 at hh ⊢
      cases b1 with
      | false => simp [hi, ww]
      | true =>
      cases b2 with
      | true => simp [hi, ww]
      | false =>
      cases b3 with
      | true => simp [hi, ww]
      | false =>
      by_cases hb4 : d.inputs[i].type'.name = name
      · simp [hi, ww, hb4]
      · cases b5 <;> simp [hi, ww, hb4, hh, hlim, S1]
    have e' := e _ rfl
    rw [← e', cf]
    cases hc : cstep l name s d.inputs[i] with
    | none => exact .inr ⟨_, rfl, Out.esc_ret _, rfl⟩
    | some s' => exact .inl ⟨s', rfl, cstep_inv hs hc, rfl⟩
  · intro s hs
    refine ⟨?_, Out.esc_ex _ _⟩
    simp [E_impl_InCycleL1]

theorem impl_outer (l : List TDef) (dd r : List (List DC)) (name : List UInt8) (hw : DC.wt (.sl (l.map TDef.enc)) ≤ 1048576) : ∀ (n i : Nat) (list : List (List UInt8)), CInv l list → 61 ≤ i + n → i ≤ list.length →
    Loop E_impl_InCycleL2 [.s name, .sl (list.map S1), .i (i : Int), .sl (l.map TDef.enc), .sl dd, .sl r] = if goO l name n i list = true then .ret [.b true] else .ex 0 []
  | 0, i, list, hI, h1, h2 => by have := cinv_len hI; omega
  | n + 1, i, list, hI, h1, h2 => by
    have hlen := cinv_len hI
    by_cases hi : i < list.length
    · have hg : list[i]? = some list[i] := List.getElem?_eq_getElem hi
      obtain ⟨d, hd, hk⟩ := kind6 (hI.2 list[i] (List.getElem_mem hi))
      have c1 : (i : Int) < (list.length : Int) := by omega
      have hdw : wtL d.enc ≤ 1048576 := def_wt hw (defOf_mem hd)
      have hin := impl_inner l dd r name (i : Int) d hw hdw list hI
      have ww := wrap_succ hi (show list.length ≤ 9223372036854775807 by omega)
      have e : E_impl_InCycleL2 [.s name, .sl (list.map S1), .i (i : Int), .sl (l.map TDef.enc), .sl dd, .sl r] = match cscan l name list d.inputs with | none => .ret [.b true] | some list' => .norm [.s name, .sl (list'.map S1), .i ((i + 1 : Nat) : Int), .sl (l.map TDef.enc), .sl dd, .sl r] := by
        have c3 : (0 : Int) ≤ (i : Int) := by omega
        simp only [E_impl_InCycleL2, List.getD_cons_zero, List.getD_cons_succ, DC.bb_b, DC.ii_i, DC.ss_s, DC.ll_sl, List.length_map, c1, c3, and_self, decide_true, if_true, Int.toNat_natCast, map_getD hi, S1, impl_typeDef l dd r _ (defs_len hw), hd, Option.getD_some, Option.isSome_some, Out.bindR_ret, TDef.enc_eq, List.cons_append, List.nil_append, hk, bne_self_eq_false, Bool.false_eq_true, if_false, hin]
        cases cscan l name list d.inputs with
        | none => simp
        | some list' => simp [ww]
      have hgo : goO l name (n + 1) i list = (match cscan l name list d.inputs with | none => true | some list' => goO l name n (i + 1) list') := by simp only [goO, hg, hd]
      cases hs : cscan l name list d.inputs with
      | none =>
        rw [hs] at e hgo
        rw [Loop_ret e, hgo]
        rfl
      | some list' =>
        rw [hs] at e hgo
        rw [hgo]
        obtain ⟨k1, k2⟩ := cscan_inv hI hs
        rw [Loop_norm e]
        exact impl_outer l dd r name hw n (i + 1) list' k1 (by omega) (by omega)
    · have hg : list[i]? = none := List.getElem?_eq_none (by omega)
      have hgo : goO l name (n + 1) i list = false := by simp only [goO, hg]
      rw [hgo, Loop_ex (r := []) (id := 0)]
      · rfl
      · have c1 : ¬ (i : Int) < (list.length : Int) := by omega
        simp [E_impl_InCycleL2, c1, hi]

theorem impl_InCycle (l : List TDef) (d r : List (List DC)) (n : List UInt8) (hw : DC.wt (.sl (l.map TDef.enc)) ≤ 1048576) : r_impl_InCycle [.sl (l.map TDef.enc), .sl d, .sl r, .s n] = .ret [.b (inCycle l n)] := by
  rw [eq_impl_InCycle]
  simp only [E_impl_InCycle, List.getD_cons_zero, List.getD_cons_succ, DC.bb_b, DC.ii_i, DC.ss_s, DC.ll_sl, inCycle]
  by_cases hk : kindOf l n = 6
  · have := impl_outer l d r n hw 61 0 [n] ⟨by simp, by simpa using hk⟩ (by omega) (by omega)
    rw [show ([n].map S1) = [[.s n]] from rfl, show ((0 : Nat) : Int) = 0 from rfl] at this
    rw [hk, this]
    cases goO l n 61 0 [n] <;> simp
  · have hk' := kind6' hk
    have w1 : IntKind.i64.wrap 1 = 1 := wrap64 (by omega) (by omega)
    rw [Loop_norm (v' := [.s n, .sl [[.s n]], .i 1, .sl (l.map TDef.enc), .sl d, .sl r])]
    · rw [Loop_ex (r := []) (id := 0)]
      · simp [hk]
      · simp [E_impl_InCycleL2]
    · simp only [E_impl_InCycleL2, List.getD_cons_zero, List.getD_cons_succ, DC.bb_b, DC.ii_i, DC.ss_s, DC.ll_sl, List.length_singleton, Int.toNat_zero, impl_typeDef l d r n (defs_len hw), Out.bindR_ret, TDef.enc_eq, List.cons_append, List.nil_append]
      simp [hk', w1]

end Go.Proofs.YtciandfkncadgaaV
