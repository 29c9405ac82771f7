/- A region: its operations in text order, or in any order that the machine draws. -/
import Derived.Test.YtljggmbgbnmapaaGreatV17
namespace Go.Proofs.YtljggmbgbnmapaaGreatV
open Go
set_option linter.unusedVariables false
set_option linter.unusedSimpArgs false

section
variable {P : Program} {ty : Nat → Option TI} {fn : Nat → Option FI} {cl : Nat → Hint → List DC → Out} {A : An}

def runN (ty : Nat → Option TI) (fn : Nat → Option FI) (cl : Nat → Hint → List DC → Out) (ops : Array Oper) (ids : List Nat) : List Nat → St → Option (List Cls × St)
  | [], st => some ([], st)
  | i :: L, st =>
    match ops[i]? with
    | none => none
    | some o =>
      match op1 ty fn cl ops (ids.getD i 0) o st with
      | none => none
      | some (c, st1) =>
        match runN ty fn cl ops ids L st1 with
        | none => none
        | some (cs, st2) => some (c :: cs, st2)

theorem runR_run {ρ : Type} {fail : ρ} {ops : Array Oper} {ids : List Nat} {K : List Cls → St → ρ} : ∀ (m n : Nat) (acc : List Cls) (st : St), n + m = ops.size →
    runR ty fn cl fail ops (zipI (ops.toList.drop n) (ids.drop n)) acc st K = via fail (runN ty fn cl ops ids (List.range' n m) st) fun r => K (acc.reverse ++ r.1) r.2
  | 0, n, acc, st, h => by
    have : ops.toList.drop n = [] := List.drop_of_length_le (by simp; omega)
    simp [this, zipI, runR, runN, via]
  | m + 1, n, acc, st, h => by
    have hn : n < ops.size := by omega
    have hd : ops.toList.drop n = ops[n] :: ops.toList.drop (n + 1) := by
      rw [List.drop_eq_getElem_cons (by simpa using hn)]
      simp
    have hh : (ids.drop n).headD 0 = ids.getD n 0 := by
      rw [List.headD_eq_head?_getD, List.head?_drop, List.getD_eq_getElem?_getD]
    have hdd : (ids.drop n).drop 1 = ids.drop (n + 1) := by rw [List.drop_drop]
    rw [hd, zipI, runR, opR_par, List.range'_succ, runN, Array.getElem?_eq_getElem hn, hh, hdd]
    dsimp only
    cases h1 : op1 ty fn cl ops (ids.getD n 0) ops[n] st with
    | none => rfl
    | some r =>
      obtain ⟨c, st1⟩ := r
      simp only [via]
      rw [runR_run m (n + 1) (c :: acc) st1 (by omega)]
      cases h2 : runN ty fn cl ops ids (List.range' (n + 1) m) st1 with
      | none => rfl
      | some r => simp [via]

theorem runR_some {ρ : Type} {fail : ρ} {ops : Array Oper} {ids : List Nat} {K : List Cls → St → ρ} {st : St} {x : ρ} (e : runR ty fn cl fail ops (zipI ops.toList ids) [] st K = x) :
    x = fail ∨ ∃ cs st', runN ty fn cl ops ids (List.range ops.size) st = some (cs, st') ∧ K cs st' = x := by
  have := runR_run (ty := ty) (fn := fn) (cl := cl) (fail := fail) (ops := ops) (ids := ids) (K := K) ops.size 0 [] st (by simp)
  rw [List.drop_zero, List.drop_zero] at this
  rw [this, ← List.range_eq_range'] at e
  cases h : runN ty fn cl ops ids (List.range ops.size) st with
  | none => rw [h] at e; exact .inl e.symm
  | some r =>
    rw [h] at e
    exact .inr ⟨r.1, r.2, rfl, by simpa [via] using e⟩

/-- In a told order. -/
theorem run_ops (hty : TyOk P ty) (hcall : CallStep P ty fn cl A) {ops : Array Oper} {ids : List Nat} {Q : Exit → Act → World → Prop} : ∀ {L : List Nat} {st st' : St} {cs : List Cls} {g : Gh} {a : Act} {w : World},
    runN ty fn cl ops ids L st = some (cs, st') → Rel ty A g st a w → (∀ g' a' w', Rel ty A g' st' a' w' → Q .normal a' w') → wpOps P ops Q L a w
  | [], st, st', cs, g, a, w, e, h, hQ => by
    simp only [runN, Option.some.injEq, Prod.mk.injEq] at e
    obtain ⟨_, rfl⟩ := e
    exact hQ g a w h
  | i :: L, st, st', cs, g, a, w, e, h, hQ => by
    rw [wpOps_cons]
    rw [runN] at e
    split at e
    · simp at e
    · rename_i o ho
      split at e
      · simp at e
      · rename_i c st1 h1
        split at e
        · simp at e
        · rename_i cs2 st2 h2
          simp only [Option.some.injEq, Prod.mk.injEq] at e
          obtain ⟨_, rfl⟩ := e
          obtain ⟨tm, H⟩ := st
          exact op1_ok hty hcall ho h h1 fun g' a' w' hr => run_ops hty hcall h2 hr hQ

/-- An operation is brought to the front. -/
theorem run_front {ops : Array Oper} {ids : List Nat} {i : Nat} {o : Oper} (ho : ops[i]? = some o) {cls : Nat → Cls} : ∀ {R1 R2 : List Nat} {st st' : St}, runN ty fn cl ops ids (R1 ++ i :: R2) st = some ((R1 ++ i :: R2).map cls, st') →
    (∀ k ∈ R1, Cls.free (cls k) (cls i) = true ∧ ∀ x, ops[k]? = some x → Oper.apart ops x o = true) →
    ∃ st1, op1 ty fn cl ops (ids.getD i 0) o st = some (cls i, st1) ∧ runN ty fn cl ops ids (R1 ++ R2) st1 = some ((R1 ++ R2).map cls, st')
  | [], R2, st, st', e, _ => by
    rw [List.nil_append, runN, ho] at e
    dsimp only at e
    split at e
    · simp at e
    · rename_i c st1 h1
      split at e
      · simp at e
      · rename_i cs st2 h2
        simp only [List.map_cons, Option.some.injEq, Prod.mk.injEq, List.cons.injEq] at e
        obtain ⟨⟨rfl, rfl⟩, rfl⟩ := e
        exact ⟨st1, h1, h2⟩
  | k :: R1, R2, st, st', e, hk => by
    rw [List.cons_append, runN] at e
    split at e
    · simp at e
    · rename_i x hx
      split at e
      · simp at e
      · rename_i c st1 h1
        split at e
        · simp at e
        · rename_i cs st2 h2
          simp only [List.map_cons, Option.some.injEq, Prod.mk.injEq, List.cons.injEq] at e
          obtain ⟨⟨rfl, rfl⟩, rfl⟩ := e
          obtain ⟨st3, k1, k2⟩ := run_front ho h2 fun j hj => hk j (by simp [hj])
          obtain ⟨q1, q2⟩ := hk k (by simp)
          obtain ⟨st4, p1, p2⟩ := op1_swap h1 k1 q1 (q2 x hx)
          refine ⟨st4, p1, ?_⟩
          rw [List.cons_append, runN, hx]
          dsimp only
          rw [p2]
          dsimp only
          rw [k2]
          rfl

/-! ### What comes before -/

/-- The indices are closed under what must come before. -/
def Closed (ops : Array Oper) (L : Nat → Prop) : Prop := ∀ (j : Nat) (o : Oper), ops[j]? = some o → L j → ∀ e ∈ o.after, Region.binds .any e = true → L e.on

theorem bits_inner (L : Nat → Prop) (acc : Array Nat) (hacc : ∀ n, L n → ∀ k, (acc.getD n 0).testBit k = true → L k) : ∀ (l : List Edge) (s : Nat), (∀ e ∈ l, Region.binds .any e = true → L e.on) → (∀ k, s.testBit k = true → L k) →
    ∀ k, (l.foldl (fun s e => if Region.binds .any e then s ||| 2 ^ e.on ||| acc.getD e.on 0 else s) s).testBit k = true → L k
  | [], s, _, hs => hs
  | e :: l, s, he, hs => by
    rw [List.foldl_cons]
    refine bits_inner L acc hacc l _ (fun e' h => he e' (by simp [h])) fun k hk => ?_
    split at hk
    · rename_i hb
      rw [Nat.testBit_or, Nat.testBit_or, Bool.or_eq_true, Bool.or_eq_true] at hk
      have hL := he e (by simp) hb
      rcases hk with (hk | hk) | hk
      · exact hs k hk
      · rw [Nat.testBit_two_pow] at hk
        simp only [decide_eq_true_eq] at hk
        rw [← hk]
        exact hL
      · exact hacc e.on hL k hk
    · exact hs k hk

theorem before_go {ops : Array Oper} {L : Nat → Prop} (hc : Closed ops L) : ∀ (l2 l1 : List Oper) (acc : Array Nat), ops.toList = l1 ++ l2 → acc.size = l1.length →
    (∀ (j : Nat) (o : Oper), l1[j]? = some o → (∀ e ∈ o.after, Region.binds .any e = true → L e.on) → ∀ k, (acc.getD j 0).testBit k = true → L k) →
    ∀ (j : Nat) (o : Oper), ops[j]? = some o → (∀ e ∈ o.after, Region.binds .any e = true → L e.on) →
      ∀ k, ((l2.foldl (fun acc o => acc.push (o.after.foldl (fun s e => if Region.binds .any e then s ||| 2 ^ e.on ||| acc.getD e.on 0 else s) 0)) acc).getD j 0).testBit k = true → L k
  | [], l1, acc, hl, hs, hinv => by
    intro j o ho he k hk
    rw [List.append_nil] at hl
    exact hinv j o (by rw [← hl]; simpa using ho) he k hk
  | x :: l2, l1, acc, hl, hs, hinv => by
    rw [List.foldl_cons]
    refine before_go hc l2 (l1 ++ [x]) _ (by simp [hl]) (by simp [hs]) fun j o ho he k hk => ?_
    have hacc : ∀ n, L n → ∀ k, (acc.getD n 0).testBit k = true → L k := by
      intro n hn k hk
      by_cases hlt : n < l1.length
      · have h1 : ops[n]? = some l1[n] := by
          have h0 : ops.toList[n]? = some l1[n] := by rw [hl, List.getElem?_append_left hlt, List.getElem?_eq_getElem hlt]
          simpa using h0
        exact hinv n _ (List.getElem?_eq_getElem hlt) (hc n _ h1 hn) k hk
      · rw [Array.getD_eq_getD_getElem?, Array.getElem?_eq_none (by omega)] at hk
        simp at hk
    by_cases hj : j < l1.length
    · rw [List.getElem?_append_left hj] at ho
      refine hinv j o ho he k ?_
      rw [Array.getD_eq_getD_getElem?, Array.getElem?_push, if_neg (by omega)] at hk
      rw [Array.getD_eq_getD_getElem?]
      exact hk
    · rw [List.getElem?_append_right (by omega)] at ho
      have hj' : j = acc.size := by
        rcases Nat.lt_or_ge 0 (j - l1.length) with h' | h'
        · rw [List.getElem?_eq_none (by simp; omega)] at ho; simp at ho
        · omega
      have hx : x = o := by
        rw [hj', hs, Nat.sub_self] at ho
        simpa using ho
      subst hx
      rw [Array.getD_eq_getD_getElem?, Array.getElem?_push, if_pos hj', Option.getD_some, ← Array.foldl_toList] at hk
      exact bits_inner L acc hacc x.after.toList 0 (fun e hm => he e (by simpa using hm)) (fun k hk => by simp at hk) k hk

theorem before_ok {ops : Array Oper} {L : Nat → Prop} (hc : Closed ops L) {j : Nat} {o : Oper} (ho : ops[j]? = some o) (he : ∀ e ∈ o.after, Region.binds .any e = true → L e.on) {k : Nat} (hk : ((Region.before ops).getD j 0).testBit k = true) : L k := by
  unfold Region.before at hk
  rw [← Array.foldl_toList] at hk
  exact before_go hc ops.toList [] #[] (by simp) rfl (fun j o h => by simp at h) j o ho he k hk

/-- In any order that the machine draws. -/
theorem run_any (hty : TyOk P ty) (hcall : CallStep P ty fn cl A) {ops : Array Oper} {ids : List Nat} {Q : Exit → Act → World → Prop} {cls : Nat → Cls}
    (hb : ∀ j x, ops[j]? = some x → ∀ e ∈ x.after, Region.binds .any e = true → e.on < j)
    (hd : ∀ i j x y, i < j → ops[i]? = some x → ops[j]? = some y → ((Region.before ops).getD j 0).testBit i = true ∨ (Cls.free (cls i) (cls j) = true ∧ Oper.apart ops x y = true)) :
    ∀ (fuel : Nat) (listed : Array Bool) (R : List Nat) {st st' : St} {g : Gh} {a : Act} {w : World}, listed.size = ops.size → R = (List.range ops.size).filter (fun i => !listed.getD i true) → R.length ≤ fuel →
    Closed ops (fun i => listed.getD i false = true) → runN ty fn cl ops ids R st = some (R.map cls, st') → Rel ty A g st a w → (∀ g' a' w', Rel ty A g' st' a' w' → Q .normal a' w') → wpAny P .any ops Q fuel listed a w := by
  -- what is not ready cannot be all
  have ready_mem : ∀ (listed : Array Bool) i, i ∈ Region.ready .any ops listed → i < ops.size ∧ listed.getD i true = false ∧ ∃ o, ops[i]? = some o ∧ ∀ e ∈ o.after, Region.binds .any e = true → listed.getD e.on false = true := by
    intro listed i hi
    simp only [Region.ready, List.mem_filter, List.mem_range, Bool.and_eq_true, Bool.not_eq_true'] at hi
    obtain ⟨h1, h2, h3⟩ := hi
    refine ⟨h1, h2, ops[i], Array.getElem?_eq_getElem h1, fun e he hb => ?_⟩
    rw [Array.getElem?_eq_getElem h1] at h3
    simp only [Option.map_some, Option.getD_some] at h3
    have := Array.all_eq_true_iff_forall_mem.1 h3 e he
    simpa [hb] using this
  have setg : ∀ (listed : Array Bool) (i k : Nat) (d : Bool), listed.size = ops.size → i < ops.size → (listed.setIfInBounds i true).getD k d = if i = k then true else listed.getD k d := by
    intro listed i k d hs hi
    rw [Array.getD_eq_getD_getElem?, Array.getElem?_setIfInBounds, Array.getD_eq_getD_getElem?]
    split
    · rw [if_pos (by omega)]; rfl
    · rfl
  intro fuel
  induction fuel with
  | zero =>
    intro listed R st st' g a w hs hR hlen hc e h hQ
    have hR0 : R = [] := List.eq_nil_of_length_eq_zero (by omega)
    rw [hR0] at e
    simp only [runN, List.map_nil, Option.some.injEq, Prod.mk.injEq] at e
    obtain ⟨_, rfl⟩ := e
    refine ⟨?_, hQ g a w h⟩
    cases hr : Region.ready .any ops listed with
    | nil => rfl
    | cons i l =>
      obtain ⟨h1, h2, _⟩ := ready_mem listed i (by rw [hr]; simp)
      have : i ∈ R := by
        rw [hR, List.mem_filter, List.mem_range]
        exact ⟨h1, by rw [h2]; rfl⟩
      rw [hR0] at this
      simp at this
  | succ fuel ih =>
    intro listed R st st' g a w hs hR hlen hc e h hQ
    refine ⟨fun hr => ?_, fun i hi => ?_⟩
    · have hR0 : R = [] := by
        cases hRc : R with
        | nil => rfl
        | cons i l =>
          exfalso
          have hmem : i ∈ R := by rw [hRc]; simp
          rw [hR, List.mem_filter, List.mem_range] at hmem
          have hlt := hmem.1
          have hmin : ∀ k, k < i → listed.getD k true = true := by
            intro k hk
            cases hg : listed.getD k true with
            | true => rfl
            | false =>
              exfalso
              have hkR : k ∈ R := by rw [hR, List.mem_filter, List.mem_range]; exact ⟨by omega, by rw [hg]; rfl⟩
              have hsort : R.Pairwise (· < ·) := by rw [hR]; exact List.Pairwise.filter _ List.pairwise_lt_range
              rw [hRc] at hkR hsort
              rcases List.mem_cons.1 hkR with rfl | hkl
              · omega
              · have := (List.pairwise_cons.1 hsort).1 k hkl
                omega
          have : i ∈ Region.ready .any ops listed := by
            simp only [Region.ready, List.mem_filter, List.mem_range, Bool.and_eq_true, Bool.not_eq_true']
            refine ⟨hlt, by have := hmem.2; rw [Bool.not_eq_true'] at this; exact this, ?_⟩
            rw [Array.getElem?_eq_getElem hlt]
            simp only [Option.map_some, Option.getD_some]
            rw [Array.all_eq_true_iff_forall_mem]
            intro ed hed
            cases hbd : Region.binds .any ed with
            | false => rfl
            | true =>
              have hon := hb i _ (Array.getElem?_eq_getElem hlt) ed hed hbd
              have := hmin ed.on hon
              rw [Array.getD_eq_getD_getElem?, Array.getElem?_eq_getElem (by omega)] at this ⊢
              simpa using this
          rw [hr] at this
          simp at this
      rw [hR0] at e
      simp only [runN, List.map_nil, Option.some.injEq, Prod.mk.injEq] at e
      obtain ⟨_, rfl⟩ := e
      exact hQ g a w h
    · obtain ⟨h1, h2, o, ho, hpre⟩ := ready_mem listed i hi
      have hsplit : List.range ops.size = List.range i ++ i :: List.range' (i + 1) (ops.size - i - 1) := by
        have h3 : ops.size = i + (ops.size - i) := by omega
        have h4 : ops.size - i = (ops.size - i - 1) + 1 := by omega
        conv => lhs; rw [h3, List.range_add]
        congr 1
        rw [h4, Nat.add_sub_cancel, List.range_succ_eq_map, List.map_cons, Nat.add_zero, List.map_map, List.range'_eq_map_range]
        congr 1
        refine List.map_congr_left fun k _ => ?_
        simp only [Function.comp, Nat.succ_eq_add_one]
        omega
      have hRs : R = (List.range i).filter (fun k => !listed.getD k true) ++ i :: (List.range' (i + 1) (ops.size - i - 1)).filter (fun k => !listed.getD k true) := by
        rw [hR, hsplit, List.filter_append, List.filter_cons, if_pos (by simp [h2])]
      rw [hRs] at e
      obtain ⟨st1, k1, k2⟩ := run_front ho e (fun k hk => by
        simp only [List.mem_filter, List.mem_range, Bool.not_eq_true'] at hk
        obtain ⟨hki, hkl⟩ := hk
        have hx : ops[k]? = some ops[k] := Array.getElem?_eq_getElem (by omega)
        rcases hd k i _ _ hki hx ho with hbit | hok
        · exfalso
          have := before_ok hc ho hpre hbit
          rw [Array.getD_eq_getD_getElem?, Array.getElem?_eq_getElem (by omega)] at this hkl
          simp at this hkl
          rw [this] at hkl
          simp at hkl
        · refine ⟨hok.1, fun x hx' => ?_⟩
          rw [hx] at hx'
          simp only [Option.some.injEq] at hx'
          rw [← hx']
          exact hok.2)
      obtain ⟨tm, H⟩ := st
      refine op1_ok hty hcall ho h k1 fun g' a' w' hr => ?_
      refine ih (listed.setIfInBounds i true) _ (by simpa using hs) ?_ ?_ ?_ k2 hr hQ
      · rw [hsplit, List.filter_append, List.filter_cons, if_neg (by rw [setg _ _ _ _ hs h1]; simp)]
        congr 1
        · refine List.filter_congr fun k hk => ?_
          rw [List.mem_range] at hk
          rw [setg _ _ _ _ hs h1, if_neg (by omega)]
        · refine List.filter_congr fun k hk => ?_
          rw [List.mem_range'_1] at hk
          rw [setg _ _ _ _ hs h1, if_neg (by omega)]
      · have := congrArg List.length hRs
        simp only [List.length_append, List.length_cons] at this ⊢
        omega
      · intro j x hx hj ed hed hbd
        rw [setg _ _ _ _ hs h1] at hj ⊢
        split
        · rfl
        · split at hj
          · rename_i hij
            subst hij
            rw [ho] at hx
            simp only [Option.some.injEq] at hx
            subst hx
            exact hpre ed hed hbd
          · exact hc j x hx hj ed hed hbd

theorem runN_length {ops : Array Oper} {ids : List Nat} : ∀ {L : List Nat} {st st' : St} {cs : List Cls}, runN ty fn cl ops ids L st = some (cs, st') → cs.length = L.length
  | [], st, st', cs, e => by
    simp only [runN, Option.some.injEq, Prod.mk.injEq] at e
    rw [← e.1]
    rfl
  | i :: L, st, st', cs, e => by
    rw [runN] at e
    split at e
    · simp at e
    · split at e
      · simp at e
      · split at e
        · simp at e
        · rename_i h2
          simp only [Option.some.injEq, Prod.mk.injEq] at e
          rw [← e.1, List.length_cons, List.length_cons, runN_length h2]

/-- A REGION. -/
theorem region_ok (hty : TyOk P ty) (hcall : CallStep P ty fn cl A) (hm : P.follows .mixedOrders = true) {id : Nat} {ops : Array Oper} {draw : Bool} {ids : List Nat} {Q : Exit → Act → World → Prop} {st : St} {g : Gh} {a : Act} {w : World} (h : Rel ty A g st a w)
    {cs : List Cls} {st' : St} (e : runN ty fn cl ops ids (List.range ops.size) st = some (cs, st')) (hd : (draw && !(drawOk ops cs)) = false) (hQ : ∀ g' a' w', Rel ty A g' st' a' w' → Q .normal a' w') : (Code.region id ops draw).wp P Q a w := by
  cases draw with
  | false => exact wp_region (run_ops hty hcall e h hQ)
  | true =>
    simp only [Bool.true_and, Bool.not_eq_false'] at hd
    have hlen : cs.length = ops.size := by rw [runN_length e, List.length_range]
    have hcs : cs = (List.range ops.size).map fun i => cs.getD i .w := by
      apply List.ext_getElem?
      intro i
      rw [List.getElem?_map]
      by_cases hi : i < ops.size
      · rw [List.getElem?_range hi]
        simp [List.getD_eq_getElem?_getD, List.getElem?_eq_getElem (show i < cs.length by omega)]
      · rw [List.getElem?_eq_none (by omega), List.getElem?_eq_none (by simp; omega)]
        rfl
    have hfilt : (List.range ops.size).filter (fun i => !(Array.replicate ops.size false).getD i true) = List.range ops.size := by
      rw [List.filter_eq_self]
      intro i hi
      rw [List.mem_range] at hi
      simp [Array.getD_eq_getD_getElem?, hi]
    unfold drawOk at hd
    simp only [List.all_eq_true, List.mem_range, Bool.and_eq_true, hlen] at hd
    have hrel : Rel ty A g st a { w with drawn := w.drawn + 1 } := by
      have hch : Ch g g st.H st.H w { w with drawn := w.drawn + 1 } := ⟨fun _ h => h, fun _ _ => rfl, fun _ h => h, fun _ _ h => ⟨h, rfl⟩, fun _ _ h => ⟨h, rfl⟩⟩
      obtain ⟨tm, H⟩ := st
      exact h.ch hch (fun i o ho => OR.mono hch rfl rfl (fun b hb => ⟨rfl, oblk_notI h ho hb⟩) (h.ob i o ho)) h.sep h.lt h.inI h.ow h.pb (h.keep.trans rfl rfl rfl (Nat.le_refl _) fun _ _ _ _ => rfl)
    refine wp_region_any hm (run_any (ids := ids) (cls := fun i => cs.getD i .w) hty hcall (fun j x hx ed hed hbd => ?_) (fun i j x y hij hx hy => ?_) ops.size _ (List.range ops.size) (by simp) hfilt.symm (by simp) ?_ (by rw [← hcs]; exact e) hrel hQ)
    · have hj : j < ops.size := by
        rcases Nat.lt_or_ge j ops.size with h' | h'
        · exact h'
        · simp [Array.getElem?_eq_none h'] at hx
      have := (hd j hj).1 ed (by
        rw [Array.getD_eq_getD_getElem?, hx]
        simpa using hed)
      rw [hbd] at this
      simpa [Nat.blt_eq] using this
    · have hj : j < ops.size := by
        rcases Nat.lt_or_ge j ops.size with h' | h'
        · exact h'
        · simp [Array.getElem?_eq_none h'] at hy
      have := (hd j hj).2 i hij
      rw [Bool.or_eq_true, Bool.and_eq_true, Array.getD_eq_getD_getElem? (xs := ops), hx, Array.getD_eq_getD_getElem? (xs := ops), hy] at this
      exact this
    · intro j o ho hL
      rw [Array.getD_eq_getD_getElem?] at hL
      have hj : j < ops.size := by
        rcases Nat.lt_or_ge j ops.size with h' | h'
        · exact h'
        · simp [Array.getElem?_eq_none h'] at ho
      simp [hj] at hL

end
end Go.Proofs.YtljggmbgbnmapaaGreatV
