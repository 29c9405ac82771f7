import Derived.Test.YtgkcnpfldkjnbaaGreatMA7
import Derived.Shelf.SlSortCmp.KitK
import Derived.Lib.Bytealg
import Derived.Test.YtgkcnpfldkjnbaaGreatProg
import Derived.Sort.WalkB2
import Derived.Sort.WalkB12
import Derived.Deep.LoopGhost
import Derived.Deep.CutRange
/- slices.SortStableFunc at a row of records of the call's own, compared by the bytes of one of their cells: a contract on the state. -/
namespace Go.Proofs.QV
open Go Go.Sort Go.Lib
set_option linter.unusedVariables false
set_option linter.unusedSimpArgs false
set_option linter.unusedSectionVars false
theorem cb_lt : ∀ a b : List UInt8, (compareBytes a b < 0) ↔ a < b
  | [], [] => by simp [compareBytes]
  | [], b :: t => by simp [compareBytes]
  | a :: s, [] => by simp [compareBytes]
  | a :: s, b :: t => by
    unfold compareBytes
    rw [List.cons_lt_cons_iff]
    by_cases h : a < b
    · simp [h]
    · by_cases h2 : b < a
      · have hne : a ≠ b := fun e => by subst e; exact h h2
        simp [h, h2, hne]
      · have he : a = b := UInt8.le_antisymm (UInt8.not_lt.1 h2) (UInt8.not_lt.1 h)
        rw [if_neg h, if_neg h2, cb_lt s t]
        simp [he]
section
variable {α : Type} [Inhabited α] (f : α → List UInt8)
theorem ltF_eq (x y : α) : ltOf (fun x y => compareBytes (f x) (f y)) x y = decide (f x < f y) := by
  unfold ltOf
  simp only [cb_lt]
theorem le_tr {a b c : List UInt8} (h : a ≤ b) (k : b ≤ c) : a ≤ c := by
  refine List.not_lt.1 fun h2 => ?_
  by_cases e : a = b
  · subst e; exact absurd h2 (List.not_lt.2 k)
  · have hab : a < b := Decidable.byContradiction fun h3 => e (List.le_antisymm h (List.not_lt.1 h3))
    exact absurd (List.lt_trans h2 hab) (List.not_lt.2 k)
theorem swoF : SWO (ltOf fun x y : α => compareBytes (f x) (f y)) := by
  refine ⟨fun x => ?_, fun x y z h k => ?_, fun x y z h k => ?_⟩
  · rw [ltF_eq]; exact decide_eq_false (List.lt_irrefl _)
  · rw [ltF_eq, decide_eq_true_eq] at *
    exact List.lt_trans h k
  · rw [ltF_eq, decide_eq_false_iff_not, List.not_lt] at *
    exact le_tr k h
theorem ms_tr (a b c : α) (h : decide (f a ≤ f b) = true) (k : decide (f b ≤ f c) = true) : decide (f a ≤ f c) = true := by
  rw [decide_eq_true_eq] at *
  exact le_tr h k
theorem ms_tot (a b : α) : (decide (f a ≤ f b) || decide (f b ≤ f a)) = true := by
  by_cases k : f a < f b
  · simp [List.le_of_lt k]
  · simp [List.not_lt.1 k]
theorem ms_srt (l : List α) : (l.mergeSort fun x y => decide (f x ≤ f y)).Pairwise fun x y => ltOf (fun x y => compareBytes (f x) (f y)) y x = false := by
  refine (List.pairwise_mergeSort (ms_tr f) (ms_tot f) l).imp fun {x y} h => ?_
  rw [ltF_eq, decide_eq_false_iff_not, List.not_lt]
  simpa using h
theorem ms_flt (l : List α) (k : α) : flt (ltOf fun x y => compareBytes (f x) (f y)) k (l.mergeSort fun x y => decide (f x ≤ f y)) = flt (ltOf fun x y => compareBytes (f x) (f y)) k l := by
  have hp : ∀ x : α, (!ltOf (fun x y : α => compareBytes (f x) (f y)) x k && !ltOf (fun x y : α => compareBytes (f x) (f y)) k x) = true → f x = f k := fun x h => by
    simp only [ltF_eq, Bool.and_eq_true, Bool.not_eq_true', decide_eq_false_iff_not, List.not_lt] at h
    exact List.le_antisymm h.2 h.1
  unfold flt
  have s1 : (l.filter fun x => !ltOf (fun x y : α => compareBytes (f x) (f y)) x k && !ltOf (fun x y : α => compareBytes (f x) (f y)) k x).Sublist (l.mergeSort fun x y => decide (f x ≤ f y)) := by
    refine List.sublist_mergeSort (ms_tr f) (ms_tot f) ?_ List.filter_sublist
    rw [List.pairwise_iff_getElem]
    intro i j hi hj hij
    have h1 := hp _ (List.mem_filter.1 (List.getElem_mem hi)).2
    have h2 := hp _ (List.mem_filter.1 (List.getElem_mem hj)).2
    rw [h1, h2]
    simp [List.le_refl]
  have s2 := s1.filter fun x => !ltOf (fun x y : α => compareBytes (f x) (f y)) x k && !ltOf (fun x y : α => compareBytes (f x) (f y)) k x
  rw [List.filter_filter] at s2
  simp only [Bool.and_self] at s2
  refine (s2.eq_of_length ?_).symm
  exact ((List.mergeSort_perm l _).filter _).length_eq.symm
theorem stable_merge (d : Array α) : (stableA (ltOf fun x y : α => compareBytes (f x) (f y)) d).toList = d.toList.mergeSort fun x y => decide (f x ≤ f y) :=
  stableA_eq (swoF f) d (ms_srt f _) (ms_flt f _)
theorem mg_flt (k : α) : ∀ (m : Nat) (a b : List α), a.length + b.length ≤ m → (a.Pairwise fun x y => ltOf (fun x y => compareBytes (f x) (f y)) y x = false) →
    flt (ltOf fun x y => compareBytes (f x) (f y)) k (List.merge a b fun x y => decide (f x ≤ f y)) = flt (ltOf fun x y => compareBytes (f x) (f y)) k a ++ flt (ltOf fun x y => compareBytes (f x) (f y)) k b
  | _, [], b, _, _ => by simp [flt]
  | _, x :: a, [], _, _ => by simp [flt]
  | 0, x :: a, y :: b, h, _ => by simp at h
  | m + 1, x :: a, y :: b, h, ha => by
    simp only [List.length_cons] at h
    obtain ⟨h1, h2⟩ := List.pairwise_cons.1 ha
    rw [List.cons_merge_cons]
    split
    · have := mg_flt k m a (y :: b) (by simp; omega) h2
      rw [show x :: a.merge (y :: b) (fun x y => decide (f x ≤ f y)) = [x] ++ a.merge (y :: b) (fun x y => decide (f x ≤ f y)) from rfl, flt_app, this, show x :: a = [x] ++ a from rfl, flt_app, List.append_assoc]
    · rename_i hxy
      have := mg_flt k m (x :: a) b (by simp; omega) ha
      rw [show y :: (x :: a).merge b (fun x y => decide (f x ≤ f y)) = [y] ++ (x :: a).merge b (fun x y => decide (f x ≤ f y)) from rfl, flt_app, this, show y :: b = [y] ++ b from rfl, flt_app, ← List.append_assoc, ← List.append_assoc]
      congr 1
      have hlt : f y < f x := by
        rw [decide_eq_true_eq] at hxy
        exact Decidable.byContradiction fun h => hxy (List.not_lt.1 h)
      have hc := flt_cross (swoF f) (u := x :: a) (v := [y]) (fun p hp q hq => by
        rw [List.mem_singleton.1 hq, ltF_eq, decide_eq_true_eq]
        rcases List.mem_cons.1 hp with e | hp
        · rw [e]; exact hlt
        · have h3 := h1 p hp
          rw [ltF_eq, decide_eq_false_iff_not, List.not_lt] at h3
          exact Decidable.byContradiction fun h4 => absurd hlt (List.not_lt.2 (le_tr h3 (List.not_lt.1 h4)))) k
      simp only [flt_app] at hc
      exact hc
theorem mg_ms (a b : List α) [Inhabited α] : List.merge (a.mergeSort fun x y => decide (f x ≤ f y)) (b.mergeSort fun x y => decide (f x ≤ f y)) (fun x y => decide (f x ≤ f y)) = (a ++ b).mergeSort fun x y => decide (f x ≤ f y) := by
  refine flt_unique (swoF f) ?_ (ms_srt f _) fun k => ?_
  · refine (List.pairwise_merge (ms_tr f) (ms_tot f) _ _ (List.pairwise_mergeSort (ms_tr f) (ms_tot f) a) (List.pairwise_mergeSort (ms_tr f) (ms_tot f) b)).imp fun {x y} h => ?_
    rw [ltF_eq, decide_eq_false_iff_not, List.not_lt]
    simpa using h
  · rw [mg_flt f k _ _ _ (Nat.le_refl _) (ms_srt f a), ms_flt, ms_flt, ms_flt, flt_app]
end
def nmD (j : Nat) (x : List DC) : List UInt8 := (x.getD j d0).ss
def stbD (j : Nat) (l : List (List DC)) : List (List DC) := l.mergeSort fun x y => decide (nmD j x ≤ nmD j y)
def qStb (e cf j : Nat) : Nat → List HS → List C → Option (Nat × List HS × C) := fun _ H args =>
  match args with
  | [.one (.own id), .one (.fn f [])] =>
    match getH H id with
    | .live (.row e' l) =>
      match Nat.beq (und e') e, Nat.beq f cf with
      | true, true => some (l.length, setH H id (.live (.row e' (stbD j l))), .tup [])
      | _, _ => none
    | _ => none
  | _ => none
section
variable {P : Program} {ty : Nat → Option TI} {A : An} {g : Gh} {tm : List C} {H : List HS} {a : Act} {w : World}
theorem els2 {cts : List CT} : ∀ {l : List (List DC)} {vs : List Value} {F : List Nat}, RdV ty w cts l vs F → (∀ b ∈ F, b < w.heap.size) → ∃ zs : List (El ty w cts), zs.map El.d = l ∧ zs.flatMap El.v = vs ∧ zs.flatMap El.F = F
  | _, _, _, .nil _, _ => ⟨[], rfl, rfl, rfl⟩
  | _, _, _, .cons _ x l v vs F G h1 h2, h => by
    obtain ⟨zs, a, b, c⟩ := els2 h2 fun c hc => h c (by simp [hc])
    exact ⟨⟨v, x, F, h1, fun c hc => h c (by simp [hc])⟩ :: zs, by simp [a], by simp [b], by simp [c]⟩
theorem els_rdv {cts : List CT} {w' : World} : ∀ zs : List (El ty w cts), (∀ z ∈ zs, ∀ b ∈ z.F, w'.heap[b]? = w.heap[b]?) → RdV ty w' cts (zs.map El.d) (zs.flatMap El.v) (zs.flatMap El.F)
  | [], _ => .nil _
  | z :: zs, h => by
    have := RdV.cons (ty := ty) (w := w') cts z.d (zs.map El.d) z.v (zs.flatMap El.v) z.F (zs.flatMap El.F) (z.rd.frame fun b hb => h z (by simp) b hb) (els_rdv zs fun y hy => h y (by simp [hy]))
    simpa using this
theorem flat_len {cts : List CT} (zs : List (El ty w cts)) : (zs.flatMap El.v).length = zs.length * cts.length := by
  induction zs with
  | nil => simp
  | cons z zs ih =>
    have := (RdL.length z.rd).1
    rw [List.flatMap_cons, List.length_append, ih, this, List.length_cons, Nat.succ_mul]
    omega
theorem flatK_list {cts : List CT} (zs : List (El ty w cts)) : (flatK El.v cts.length zs.toArray).toList = zs.flatMap El.v := by
  apply List.ext_getElem?
  intro t
  by_cases ht : t < zs.length * cts.length
  · have hk : 0 < cts.length := by
      rcases Nat.eq_zero_or_pos cts.length with h | h
      · rw [h] at ht; simp at ht
      · exact h
    have hj : t / cts.length < zs.length := (Nat.div_lt_iff_lt_mul hk).2 ht
    have hi : t % cts.length < cts.length := Nat.mod_lt _ hk
    have hs : t < (flatK El.v cts.length zs.toArray).size := by rw [size_flatK]; simpa using ht
    have h1 := get_flatK El.v cts.length zs.toArray t (by simpa using ht)
    have hz : zs.toArray[t / cts.length]! = zs[t / cts.length]! := by simp [hj]
    rw [hz] at h1
    have hl : (zs[t / cts.length]!).v.length = cts.length := (RdL.length (zs[t / cts.length]!).rd).1
    have h2 := els_get zs (t / cts.length) (t % cts.length) ((zs[t / cts.length]!).v[t % cts.length]!) hj (by
      rw [List.getElem?_eq_getElem (by omega)]
      exact congrArg some (getElem!_pos _ _ (by omega)).symm)
    rw [Nat.div_add_mod'] at h2
    rw [h2, Array.getElem?_toList, ← h1, Array.getElem?_eq_getElem hs]
    exact congrArg some (getElem!_pos _ t hs).symm
  · rw [List.getElem?_eq_none (by simp; omega), List.getElem?_eq_none (by rw [flat_len]; omega)]
theorem putK_world {w : World} {b e k : Nat} {cur F : Array Value} {os : Array Obj} (hb : w.heap[b]? = some (.cells cur e (0, 0))) (hn : F.size ≤ cur.size) :
    (grow (putRow id (Sort.ahead w k) b 0 F) os).os = w.os ∧ (grow (putRow id (Sort.ahead w k) b 0 F) os).tape = w.tape ∧ (grow (putRow id (Sort.ahead w k) b 0 F) os).output = w.output ∧ w.heap.size ≤ (grow (putRow id (Sort.ahead w k) b 0 F) os).heap.size ∧
      (∀ c, c < w.heap.size → c ≠ b → (grow (putRow id (Sort.ahead w k) b 0 F) os).heap[c]? = w.heap[c]?) ∧
      ∃ cur', (grow (putRow id (Sort.ahead w k) b 0 F) os).heap[b]? = some (.cells cur' e (0, 0)) ∧ cur'.size = cur.size ∧ cur'.toList.take F.size = F.toList := by
  have hlt := block_lt hb
  refine ⟨rfl, rfl, rfl, by simp, fun c hc hne => ?_, putCells id 0 F cur, ?_, by simp [putCells], ?_⟩
  · rw [heap_grow_old _ _ (by simpa using hc)]
    simp only [putRow, mapBlock, Array.getElem?_modify, if_neg (fun h : b = c => hne h.symm)]
    rfl
  · rw [heap_grow_old _ _ (by simpa using hlt)]
    simp [putRow, mapBlock, Array.getElem?_modify, hb, onCells]
  · apply List.ext_getElem?
    intro j
    by_cases hj : j < F.size
    · rw [List.getElem?_take_of_lt hj, Array.getElem?_toList, Array.getElem?_toList, putCells, Array.getElem?_mapIdx, Array.getElem?_eq_getElem (by omega), Array.getElem?_eq_getElem hj]
      simp [hj]
    · rw [List.getElem?_eq_none (by simp; omega), List.getElem?_eq_none (by simp; omega)]
theorem holdsK_row {w : World} {b e : Nat} {cur F : Array Value} (hb : w.heap[b]? = some (.cells cur e (0, 0))) (ht : cur.toList.take F.size = F.toList) : Holds id w b 0 F := by
  intro j hj
  have h1 : (cur.toList.take F.size)[j]? = some F[j] := by rw [ht]; simp [hj]
  rw [List.getElem?_take_of_lt hj, Array.getElem?_toList] at h1
  refine ⟨?_, ?_⟩
  · unfold World.cell?
    simp [hb, h1, hj]
  · unfold World.frozen?
    simp [hb]
theorem row_perm (h : Rel ty A g ⟨tm, H⟩ a w) {id e b cap : Nat} {l l' : List (List DC)} {ti : TI} {w' : World} {cur' : Array Value} {vs' : List Value} {F' : List Nat} (hr : getH H id = .live (.row e l)) (ht : ty (und e) = some ti) (h0 : 0 < ti.cts.length)
    (hv : g.val id = .slice (some ⟨b, 0, none⟩) l.length cap) (hn : l.length ≤ cap) (hcap : cap ≤ maxLen) (hl : l'.length = l.length) (os : w'.os = w.os) (tp : w'.tape = w.tape) (out : w'.output = w.output) (hs : w.heap.size ≤ w'.heap.size) (ho : ∀ c, c < w.heap.size → c ≠ b → w'.heap[c]? = w.heap[c]?)
    (hb : w'.heap[b]? = some (.cells cur' (und e) (0, 0))) (hcs : cur'.size = cap * ti.cts.length) (htk : cur'.toList.take (l.length * ti.cts.length) = vs') (hrd : RdV ty w' ti.cts l' vs' F') (hle : Leads g w' id e F') : Rel ty A g ⟨tm, setH H id (.live (.row e l'))⟩ a w' := by
  have hob : (g.val id).ownBlock = some b := by rw [hv]; rfl
  have hrb : rblk g id e b := .inl hob
  obtain ⟨_, _, _, _, _, _, _, _, hI⟩ := h.ob id _ hr
  refine (h.upd (g' := g) (getH_lt_live hr) (by simp) rfl (fun _ _ => ⟨rfl, rfl, rfl⟩) (fun _ _ => ⟨⟨_, _, .inl hr⟩, rfl⟩) (fun _ hx => ?_) (fun c hcx => ?_) hs (fun _ o ho' => ?_) (fun _ hx => ?_) ?_).1
  · obtain ⟨t, cs, hx⟩ := hx; simp [getH_set_same _ (getH_lt_live hr)] at hx
  · rcases hcx with hcx | ⟨i, p, hi, hp, hcx⟩
    · exact ho c (h.lt c hcx) fun e => hI b hrb (e ▸ hcx)
    · exact ho c (h.oblk_lt hp hcx) fun e => h.sep i id p _ b hi hp hr (e ▸ hcx) hrb
  · obtain rfl : Obj'.row e l' = o := by simpa using ho'
    refine ⟨⟨ti, vs', F', ht, h0, ?_, hrd, hle, hI⟩, fun c hcx => ?_⟩
    · rw [hv, hl]
      exact ⟨by rw [← hl]; exact hrd.length, .inr ⟨b, cap, cur', rfl, Nat.zero_le _, hb, hn, hcap, hcs, htk⟩⟩
    · have hcx : rblk g id e c := hcx
      exact ⟨hI c hcx, h.ow id (.row e l) c hr hcx, fun i p hi hp => h.sep i id p _ c hi hp hr |> fun k hk => k hk hcx⟩
  · obtain ⟨t, cs, hx⟩ := hx; simp [getH_set_same _ (getH_lt_live hr)] at hx
  · exact h.keep.trans os tp out hs fun c hc' hp hm => by
      by_cases hcb : c = b
      · subst hcb
        exact absurd (h.ow id (.row e l) c hr hrb) fun k => by
          rcases k with k | k
          · omega
          · exact hm k
      · exact ho c (Nat.lt_of_lt_of_le hc' h.keep.size) hcb
theorem setH_self {H : List HS} {id : Nat} {o : Obj'} (hr : getH H id = .live o) : setH H id (.live o) = H := by
  apply List.ext_getElem?
  intro j
  unfold setH
  rw [List.getElem?_set]
  split
  · rename_i hj
    subst hj
    have hlt := getH_lt_live hr
    rw [if_pos hlt]
    have h2 := hr
    unfold getH at h2
    rw [List.getD_eq_getElem?_getD, List.getElem?_eq_getElem hlt] at h2
    rw [List.getElem?_eq_getElem hlt]
    simpa using h2.symm
  · rfl
theorem stb_ok {G : Glob} {f e cf j : Nat} {cts : List CT} (hte : ∀ te, ty e = some te → te.cts = cts)
    (hS : ∀ (w : World) (blk cap : Nat) (d : Array (El ty w cts)), HoldsK El.v cts.length w blk 0 d → blk < w.heap.size → d.size < LIM → Calls P f #[.slice (some ⟨blk, 0, none⟩) d.size cap, .func (.func cf) #[] #[]] w fun en w' => en = .returned (.tuple #[]) ∧ SWK El.v cts.length w blk 0 (stableA (ltOf fun x y => compareBytes (nmD j x.d) (nmD j y.d)) d) w')
    (hN : ∀ (fv : Value) (w : World), Calls P f #[.slice none 0 0, fv] w fun en w' => en = .returned (.tuple #[]) ∧ w' = w) : StOK P G ty f (qStb e cf j) := by
  intro A g tm H H' a w base n args vals c hA h hlen hcr hq hlim
  unfold qStb at hq
  split at hq
  · rename_i id f'
    split at hq
    · rename_i e' l hr
      split at hq
      · rename_i b1 b2
        obtain rfl := Nat.eq_of_beq_eq_true b1
        obtain rfl := Nat.eq_of_beq_eq_true b2
        simp only [Option.some.injEq, Prod.mk.injEq] at hq
        obtain ⟨rfl, rfl, rfl⟩ := hq
        match vals, hlen with
        | [v1, v2], _ =>
          have hv1 := hcr 0 _ v1 rfl rfl
          have hv2 := hcr 1 _ v2 rfl rfl
          have e1 : v1 = g.val id := hv1.2.2 ⟨_, _, .inl hr⟩
          obtain ⟨lb, e2, hl2, _⟩ := hv2
          obtain rfl : lb = #[] := by simpa using hl2
          obtain ⟨ti, vs, F, k1, k0, k2, k3, k4, k5⟩ := h.ob id _ hr
          have hct := hte ti k1
          subst hct
          have htup : ∀ (g' : Gh) (H2 : List HS) (w2 : World), CR ty g' H2 w2 (.tup []) (.tuple #[]) := fun _ _ _ => ⟨[], rfl, rfl, fun i a ss u hi => by simp at hi⟩
          have lF : ∀ b ∈ F, b < w.heap.size := fun b hb => by
            rcases k4.all b hb with hb | hb
            · exact h.lt b hb
            · exact h.oblk_lt hr hb
          obtain ⟨zs, z1, z2, z3⟩ := els2 k3 lF
          have hzl : zs.length = l.length := by rw [← z1, List.length_map]
          subst e1 e2
          rcases k2.2 with ⟨hv, hn⟩ | ⟨b, cap, cur, hv, hk, hg, hnc, hcm, hcs, htake⟩
          · have hl0 : l = [] := List.eq_nil_of_length_eq_zero hn
            subst hl0
            show Calls P f #[g.val id, _] w _
            rw [hv]
            refine Calls.mono (hN _ w) fun en w' hen => ?_
            obtain ⟨rfl, rfl⟩ := hen
            have : stbD j [] = [] := by simp [stbD]
            rw [this, setH_self hr]
            exact ⟨_, g, rfl, h, fun _ h => h, htup _ _ _⟩
          · show Calls P f #[g.val id, .func (.func f') #[] #[]] w _
            rw [hv]
            have hbl : b < w.heap.size := block_lt hg
            have hfs : (flatK El.v ti.cts.length zs.toArray).size = l.length * ti.cts.length := by rw [size_flatK]; simp [hzl]
            have hc := hS w b cap zs.toArray (holdsK_row hg (by rw [hfs, flatK_list, z2]; exact htake)) hbl (by simpa [hzl] using hlim)
            rw [show zs.toArray.size = l.length by simpa using hzl] at hc
            refine Calls.mono hc fun en w' hen => ?_
            obtain ⟨rfl, n, os, rfl⟩ := hen
            have hm := stable_merge (fun x : El ty w ti.cts => nmD j x.d) zs.toArray
            generalize hD : stableA (ltOf fun x y : El ty w ti.cts => compareBytes (nmD j x.d) (nmD j y.d)) zs.toArray = D at hm
            obtain ⟨D⟩ := D
            have hm : D = zs.mergeSort fun x y => decide (nmD j x.d ≤ nmD j y.d) := hm
            have hp : D.Perm zs := by rw [hm]; exact List.mergeSort_perm _ _
            have hdl : D.length = l.length := by rw [hp.length_eq, hzl]
            have hdd : D.map El.d = stbD j l := by
              rw [hm, ← z1]
              unfold stbD
              exact List.map_mergeSort fun x _ y _ => rfl
            have hfs2 : (flatK El.v ti.cts.length D.toArray).size = l.length * ti.cts.length := by rw [size_flatK]; simp [hdl]
            obtain ⟨y1, y2, y3, y4, y5, cur', y6, y7, y8⟩ := putK_world (w := w) (k := n) (os := os) (F := flatK El.v ti.cts.length D.toArray) hg (by rw [hfs2, hcs]; exact Nat.mul_le_mul_right _ hnc)
            rw [hfs2, flatK_list] at y8
            have hFp : (D.flatMap El.F).Perm F := by rw [← z3]; exact hp.flatMap_right _
            have hFb : ∀ c ∈ F, (grow (putRow _root_.id (Sort.ahead w n) b 0 (flatK El.v ti.cts.length D.toArray)) os).heap[c]? = w.heap[c]? := fun c hcF => by
              refine y5 c (lF c hcF) fun e => ?_
              subst e
              have hob : (g.val id).ownBlock = some c := by rw [hv]; rfl
              unfold Leads LeadsV at k4
              split at k4
              · exact k5 c (.inl hob) (k4 c hcF)
              · exact k4.2.2 c hcF hob
            have hrd := els_rdv (w' := grow (putRow _root_.id (Sort.ahead w n) b 0 (flatK El.v ti.cts.length D.toArray)) os) D fun z hz c hc => hFb c (hFp.mem_iff.1 (List.mem_flatMap.2 ⟨z, hz, hc⟩))
            rw [hdd] at hrd
            have hle : Leads g (grow (putRow _root_.id (Sort.ahead w n) b 0 (flatK El.v ti.cts.length D.toArray)) os) id e' (D.flatMap El.F) := by
              unfold Leads LeadsV at k4 ⊢
              split at k4
              · exact fun c hc => k4 c (hFp.mem_iff.1 hc)
              · obtain ⟨o1, o2, o3⟩ := k4
                refine ⟨⟨hFp.nodup_iff.2 o1.nodup, fun c hc => ?_⟩, fun c => (o2 c).trans hFp.mem_iff.symm, fun c hc => o3 c (hFp.mem_iff.1 hc)⟩
                have hc' := hFp.mem_iff.1 hc
                rw [hFb c hc']
                exact o1.open' c hc'
            exact ⟨_, g, rfl, row_perm h hr k1 k0 hv hnc hcm (by unfold stbD; exact List.length_mergeSort _) y1 y2 y3 y4 y5 y6 (by rw [y7, hcs]) y8 hrd hle, fun _ h => h, htup _ _ _⟩
      · simp at hq
    · simp at hq
  · simp at hq
end
end Go.Proofs.QV

namespace Go.Proofs
open Go.Shelf Go.RowKit Go.Lib Go.Sort
set_option linter.unusedVariables false
variable {α : Type} [Inhabited α]
set_option maxHeartbeats 4000000 in
set_option maxRecDepth 1000000 in
theorem QV.swapRange_calls (k : Nat) (aE : ∀ w, (isAgg 50).run Tryz.prog w = .ok true w) (zE : ∀ w, (Go.sizeOf 50).run Tryz.prog w = .ok k w) (enc : α → List Value) (g : Nat) (cb : Array Value) (blk off cap a b n : Nat) (d0 d : Array α) (w0 w : World)
    (R : RowK enc k w0 blk off d0) (hs : d0.size = d.size) (S : SWK enc k w0 blk off d w) (hab : a + n ≤ b) (hb : b + n ≤ d.size) (hsz : d.size < 4611686018427387904) :
    Calls Tryz.prog 127 #[.slice (some ⟨blk, off, none⟩) d.size cap, .int .i64 a, .int .i64 b, .int .i64 n, .func (.func g) #[] cb] w fun e w' => e = .returned (.tuple #[]) ∧ SWK enc k w0 blk off (QV.swpN a b n d) w' := by
  have mixed : Tryz.prog.follows .mixedOrders = true := by kernel_rfl
  have t0 := Tryz.underlying0; have a0 := Tryz.isAgg0; have z0 := Tryz.sizeOf0; have v0 := Tryz.zeroValue0; have t3 := Tryz.underlying3; have a3 := Tryz.isAgg3; have z3 := Tryz.sizeOf3; have v3 := Tryz.zeroValue3; have t4 := Tryz.underlying4; have a4 := Tryz.isAgg4; have z4 := Tryz.sizeOf4; have v4 := Tryz.zeroValue4; have t22 := Tryz.underlying24; have a22 := Tryz.isAgg24; have z22 := Tryz.sizeOf24; have v22 := Tryz.zeroValue24; have t25 := Tryz.underlying55; have a25 := Tryz.isAgg55; have z25 := Tryz.sizeOf55; have v25 := Tryz.zeroValue55
  have FG := Tryz.func127
  have FN : Tryz.f127.ntmps = 38 := rfl
  have S0 : Aside (SWK enc k w0 blk off d w) := S
  clear S
  go_enter FG, FN
  go_wp2
  go_loopg [10] n (fun kx s10 wr => ∃ (i : Nat) (dk : Array α), s10 = .int .i64 i ∧ i ≤ n ∧ n - i ≤ kx ∧ dk.size = d.size ∧ Aside (SWK enc k w0 blk off dk wr) ∧ dk = QV.swpN a b i d)
  case atStart => exact ⟨0, d, rfl, by omega, by omega, rfl, S0, rfl⟩
  case round =>
    clear S0
    obtain ⟨i, dk, rfl, hin, hkx, hds, S1, heq⟩ := hrel
    by_cases hlt : i < n
    · have hltz : (i : Int) < (n : Int) := by omega
      go_wp2_with fail
      have ea44 : ((a : Int) + (i : Int)).toNat = a + i := by omega
      have pa44 : (0 : Int) ≤ (a : Int) + (i : Int) := by omega
      have ba44 : (a : Int) + (i : Int) < (d.size : Int) := by omega
      have ra44 : IntKind.i64.wrap ((a : Int) + (i : Int)) = (a : Int) + (i : Int) := by rw [IntKind.wrap_i64]; omega
      have ec44 : ((b : Int) + (i : Int)).toNat = b + i := by omega
      have pc44 : (0 : Int) ≤ (b : Int) + (i : Int) := by omega
      have bc44 : (b : Int) + (i : Int) < (d.size : Int) := by omega
      have rc44 : IntKind.i64.wrap ((b : Int) + (i : Int)) = (b : Int) + (i : Int) := by rw [IntKind.wrap_i64]; omega
      have S2 : Aside (SWK enc k w0 blk off (swp dk (a + i) (b + i)) ((wr.drew.setCells blk (off + (a + i) * k) (enc dk[b + i]!)).setCells blk (off + (b + i) * k) (enc dk[a + i]!))) := S1.out.swapped R (a + i) (b + i) (by omega) (by omega)
      have l44a := S1.out.ld1 R (by omega) Tryz.prog (a + i) (by omega)
      have l44b := S1.out.ld1 R (by omega) Tryz.prog (b + i) (by omega)
      have s44a := S1.out.st1 R (by omega) Tryz.prog (a + i) (by omega) dk[b + i]!
      have s44b := S1.out.st2 R (by omega) Tryz.prog (a + i) (b + i) (by omega) (by omega) dk[b + i]! dk[a + i]!
      have n44a : (enc dk[a + i]!).length = k := R.hk _
      have n44b : (enc dk[b + i]!).length = k := R.hk _
      generalize enc dk[a + i]! = cI44 at S2 l44a s44b n44a
      generalize enc dk[b + i]! = cJ44 at S2 l44b s44a s44b n44b
      clear S1
      go_wp2_with fail
      go_big_region_o
      clear l44a l44b s44a s44b
      generalize (wr.drew.setCells blk (off + (a + i) * k) cJ44).setCells blk (off + (b + i) * k) cI44 = w2 at S2 ⊢
      go_wp2
      go_roundg (n - (i + 1))
      case measure => omega
      case rel =>
        exact ⟨i + 1, swp dk (a + i) (b + i), by simp, by omega, Nat.le_refl _, by rw [size_swp]; exact hds, S2, by rw [heq]; rfl⟩
    · have hltz : ¬ (i : Int) < (n : Int) := by omega
      have hi : i = n := by omega
      go_wp2
      go_end0
      refine ⟨rfl, ?_⟩
      subst hi
      rw [← heq]
      exact S1.out
end Go.Proofs

namespace Go.Proofs
open Go.Shelf Go.RowKit Go.Lib Go.Sort
variable {α : Type} [Inhabited α]
set_option maxHeartbeats 4000000 in
set_option maxRecDepth 1000000 in
theorem QV.rotate_calls (k : Nat) (aE : ∀ w, (isAgg 50).run Tryz.prog w = .ok true w) (zE : ∀ w, (Go.sizeOf 50).run Tryz.prog w = .ok k w) (enc : α → List Value) (g : Nat) (cb : Array Value) (blk off cap a m b : Nat) (d0 d : Array α) (w0 w : World)
    (R : RowK enc k w0 blk off d0) (hs : d0.size = d.size) (S : SWK enc k w0 blk off d w) (ham : a < m) (hmb : m < b) (hb : b ≤ d.size) (hsz : d.size < 4611686018427387904) :
    Calls Tryz.prog 116 #[.slice (some ⟨blk, off, none⟩) d.size cap, .int .i64 a, .int .i64 m, .int .i64 b, .func (.func g) #[] cb] w fun e w' => e = .returned (.tuple #[]) ∧ SWK enc k w0 blk off (QV.rot m (m - a) (b - m) d) w' := by
  have mixed : Tryz.prog.follows .mixedOrders = true := by kernel_rfl
  have t0 := Tryz.underlying0; have a0 := Tryz.isAgg0; have z0 := Tryz.sizeOf0; have v0 := Tryz.zeroValue0; have t3 := Tryz.underlying3; have a3 := Tryz.isAgg3; have z3 := Tryz.sizeOf3; have v3 := Tryz.zeroValue3; have t4 := Tryz.underlying4; have a4 := Tryz.isAgg4; have z4 := Tryz.sizeOf4; have v4 := Tryz.zeroValue4; have t22 := Tryz.underlying24; have a22 := Tryz.isAgg24; have z22 := Tryz.sizeOf24; have v22 := Tryz.zeroValue24; have t25 := Tryz.underlying55; have a25 := Tryz.isAgg55; have z25 := Tryz.sizeOf55; have v25 := Tryz.zeroValue55
  have FG := Tryz.func116
  have FN : Tryz.f116.ntmps = 58 := rfl
  have E190 : ∀ args w, (callFunc 127 args).run Tryz.prog w = .ok (.enter 127 args) w := enters_of Tryz.func127 (by kernel_rfl) rfl
  have S0 : Aside (SWK enc k w0 blk off d w) := S
  clear S
  go_enter FG, FN
  go_wp2
  go_loopg [10, 11] (b - a) (fun kx s10 s11 wr => ∃ (i j : Nat) (dk : Array α), s10 = .int .i64 i ∧ s11 = .int .i64 j ∧ 0 < i ∧ 0 < j ∧ i ≤ m ∧ m + j ≤ d.size ∧ i + j ≤ kx ∧ dk.size = d.size ∧ Aside (SWK enc k w0 blk off dk wr) ∧ Aside (QV.rot m i j dk = QV.rot m (m - a) (b - m) d))
  case atStart => exact ⟨m - a, b - m, d, by congr 1; omega, by congr 1; omega, by omega, by omega, by omega, by omega, by omega, rfl, S0, rfl⟩
  case round =>
    clear S0
    obtain ⟨i, j, dk, rfl, rfl, hi, hj, him, hmj, hkx, hds, S1, heq⟩ := hrel
    by_cases hij : i = j
    · subst hij
      have hc := QV.swapRange_calls k aE zE enc g cb blk off cap (m - i) m i d0 dk w0 wr R (by omega) S1.out (by omega) (by omega) (by omega)
      rw [hds, show ((m - i : Nat) : Int) = (m : Int) - (i : Int) by omega] at hc
      clear S1
      go_wp2_with (go_at_fn 127; refine hc.mono ?_; rintro e w1 ⟨rfl, hw1⟩)
      go_end0
      refine ⟨rfl, ?_⟩
      rw [← heq.out, QV.rot, if_pos rfl]
      exact hw1
    · have hijz : ¬ (i : Int) = (j : Int) := by omega
      by_cases hji : j < i
      · have hjiz : (j : Int) < (i : Int) := by omega
        have hc := QV.swapRange_calls k aE zE enc g cb blk off cap (m - i) m j d0 dk w0 wr R (by omega) S1.out (by omega) (by omega) (by omega)
        rw [hds, show ((m - i : Nat) : Int) = (m : Int) - (i : Int) by omega] at hc
        clear S1
        go_wp2_with (go_at_fn 127; refine hc.mono ?_; rintro e w1 ⟨rfl, hw1⟩)
        go_roundg (i - j + j)
        case measure => omega
        case rel =>
          refine ⟨i - j, j, QV.swpN (m - i) m j dk, by congr 1; omega, rfl, by omega, hj, by omega, hmj, Nat.le_refl _, by rw [QV.size_swpN]; exact hds, hw1, (show _ = _ from ?_)⟩
          rw [← heq.out]
          conv => rhs; rw [QV.rot]
          rw [if_neg hij, dif_pos ⟨hji, hj⟩]
      · have hjiz : ¬ (j : Int) < (i : Int) := by omega
        have hc := QV.swapRange_calls k aE zE enc g cb blk off cap (m - i) (m + j - i) i d0 dk w0 wr R (by omega) S1.out (by omega) (by omega) (by omega)
        rw [hds, show ((m - i : Nat) : Int) = (m : Int) - (i : Int) by omega, show ((m + j - i : Nat) : Int) = (m : Int) + (j : Int) - (i : Int) by omega] at hc
        clear S1
        go_wp2_with (go_at_fn 127; refine hc.mono ?_; rintro e w1 ⟨rfl, hw1⟩)
        go_roundg (i + (j - i))
        case measure => omega
        case rel =>
          refine ⟨i, j - i, QV.swpN (m - i) (m + j - i) i dk, rfl, by congr 1; omega, hi, by omega, him, by omega, Nat.le_refl _, by rw [QV.size_swpN]; exact hds, hw1, (show _ = _ from ?_)⟩
          rw [← heq.out]
          conv => rhs; rw [QV.rot]
          rw [if_neg hij, dif_neg (by omega), dif_pos ⟨by omega, hi⟩]
end Go.Proofs

namespace Go.Proofs
open Go.Shelf Go.RowKit Go.Lib Go.Sort
variable {α : Type} [Inhabited α]
theorem QV.size_rot (m : Nat) : ∀ (g i j : Nat) (d : Array α), i + j ≤ g → (QV.rot m i j d).size = d.size := by
  intro g
  induction g with
  | zero =>
    intro i j d h
    rw [QV.rot]
    rw [if_pos (by omega), QV.size_swpN]
  | succ g ih =>
    intro i j d h
    rw [QV.rot]
    by_cases e : i = j
    · rw [if_pos e, QV.size_swpN]
    · rw [if_neg e]
      by_cases h1 : j < i ∧ 0 < j
      · rw [dif_pos h1, ih _ _ _ (by omega), QV.size_swpN]
      · rw [dif_neg h1]
        by_cases h2 : i < j ∧ 0 < i
        · rw [dif_pos h2, ih _ _ _ (by omega), QV.size_swpN]
        · rw [dif_neg h2]
theorem QV.size_symM (lt : α → α → Bool) : ∀ (g a m b : Nat) (d : Array α), (QV.symM lt g a m b d).size = d.size := by
  intro g
  induction g with
  | zero => intro a m b d; rfl
  | succ g ih =>
    intro a m b d
    rw [QV.symM]
    have hr : ∀ s, (QV.rotS d a m b s).size = d.size := fun s => by
      unfold QV.rotS
      split
      · exact QV.size_rot _ _ _ _ _ (Nat.le_refl _)
      · rfl
    split
    · exact QV.size_shR ..
    · split
      · exact QV.size_shL ..
      · dsimp only
        split <;> split <;> simp only [ih, hr]
set_option maxHeartbeats 8000000 in
set_option maxRecDepth 1000000 in
theorem QV.symOne_calls (k : Nat) (aE : ∀ w, (isAgg 50).run Tryz.prog w = .ok true w) (zE : ∀ w, (Go.sizeOf 50).run Tryz.prog w = .ok k w) (enc : α → List Value) (cf : α → α → Int) (g : Nat) (cb : Array Value) (blk off cap a m b : Nat) (d0 d : Array α) (w0 w : World)
    (eg : ∀ args w, (callFunc g args).run Tryz.prog w = .ok (.enter g args) w) (hcmp : CmpLays Tryz.prog g cb enc k cf blk off d0.size w0) (R : RowK enc k w0 blk off d0) (hs : d0.size = d.size) (S : SWK enc k w0 blk off d w) (ham : m = a + 1) (hmb : m < b) (hb : b ≤ d.size) (hsz : d.size < 4611686018427387904) :
    Calls Tryz.prog 99 #[.slice (some ⟨blk, off, none⟩) d.size cap, .int .i64 a, .int .i64 m, .int .i64 b, .func (.func g) #[] cb] w fun e w' => e = .returned (.tuple #[]) ∧ SWK enc k w0 blk off (QV.shR a (QV.bs (fun h => ltOf cf d[h]! d[a]!) m b - 1 - a) d) w' := by
  have mixed : Tryz.prog.follows .mixedOrders = true := by kernel_rfl
  have t0 := Tryz.underlying0; have a0 := Tryz.isAgg0; have z0 := Tryz.sizeOf0; have v0 := Tryz.zeroValue0; have t3 := Tryz.underlying3; have a3 := Tryz.isAgg3; have z3 := Tryz.sizeOf3; have v3 := Tryz.zeroValue3; have t4 := Tryz.underlying4; have a4 := Tryz.isAgg4; have z4 := Tryz.sizeOf4; have v4 := Tryz.zeroValue4; have t22 := Tryz.underlying24; have a22 := Tryz.isAgg24; have z22 := Tryz.sizeOf24; have v22 := Tryz.zeroValue24; have t25 := Tryz.underlying55; have a25 := Tryz.isAgg55; have z25 := Tryz.sizeOf55; have v25 := Tryz.zeroValue55
  have t35 := Tryz.underlying159; have a35 := Tryz.isAgg159; have z35 := Tryz.sizeOf159; have v35 := Tryz.zeroValue159
  have u3 := run_underlying Tryz.underlying3; have u4 := run_underlying Tryz.underlying4; have u35 := run_underlying Tryz.underlying159
  have FG := Tryz.func99
  have FN : Tryz.f99.ntmps = 220 := rfl
  have HC : Aside _ := hcmp
  have S0 : Aside (SWK enc k w0 blk off d w) := S
  clear S hcmp
  have hb1 : ((m : Int) - (a : Int) == 1) = true := by rw [show (m : Int) - (a : Int) = 1 by omega]; rfl
  have HAM : Aside (m = a + 1) := ham
  have ham' : a < m := by omega
  clear ham
  go_enter FG, FN
  go_wp2
  go_loopg [10, 11] (b - m) (fun kx s10 s11 wr => ∃ (i j : Nat), s10 = .int .i64 i ∧ s11 = .int .i64 j ∧ m ≤ i ∧ i ≤ j ∧ j ≤ b ∧ j - i ≤ kx ∧ Aside (SWK enc k w0 blk off d wr) ∧ Aside (QV.bs (fun h => ltOf cf d[h]! d[a]!) i j = QV.bs (fun h => ltOf cf d[h]! d[a]!) m b))
  case atStart => exact ⟨m, b, rfl, rfl, by omega, by omega, by omega, by omega, S0, rfl⟩
  case round =>
    clear S0
    obtain ⟨i, j, rfl, rfl, hmi, hij, hjb, hkx, S1, heq⟩ := hrel
    by_cases hlt : i < j
    · have hltz : (i : Int) < (j : Int) := by omega
      have ea38 : (((i : Int) + (j : Int)) / 2).toNat = (i + j) / 2 := by omega
      have pa38 : (0 : Int) ≤ ((i : Int) + (j : Int)) / 2 := by omega
      have ba38 : ((i : Int) + (j : Int)) / 2 < (d.size : Int) := by omega
      have ra38 : IntKind.i64.wrap (((i : Int) + (j : Int)) / 2) = ((i : Int) + (j : Int)) / 2 := by rw [IntKind.wrap_i64]; omega
      have ec38 : ((a : Int)).toNat = a := by omega
      have pc38 : (0 : Int) ≤ (a : Int) := by omega
      have bc38 : (a : Int) < (d.size : Int) := by omega
      obtain ⟨x38, hx38⟩ : ∃ x, x = d[(i + j) / 2]! := ⟨_, rfl⟩
      obtain ⟨y38, hy38⟩ : ∃ x, x = d[a]! := ⟨_, rfl⟩
      have l38a := S1.out.ld R (by omega) Tryz.prog ((i + j) / 2) (by omega)
      have l38b := S1.out.ld R (by omega) Tryz.prog a (by omega)
      rw [← hx38] at l38a
      rw [← hy38] at l38b
      have hc38 := S1.out.cmp HC.out (by omega) x38 y38
      cases hlv : ltOf cf d[(i + j) / 2]! d[a]! with
      | true =>
        have hv38 : cf x38 y38 < 0 := by rw [hx38, hy38]; exact of_decide_eq_true hlv
        have hd38 : decide (cf x38 y38 < 0) = true := decide_eq_true hv38
        clear hx38 hy38
        go_wp2_with fail
        go_quiet_grown (first | (go_at_fn g; refine Calls.grown_of (hc38 _ _)))
        have S2 : Aside (SWK enc k w0 blk off d (grow (wr.drewN nq) osq)) := S1.out.grown nq osq
        clear l38a l38b hc38 S1
        generalize grow (wr.drewN nq) osq = w2 at S2 ⊢
        clear nq osq
        go_wp2
        go_roundg (j - ((i + j) / 2 + 1))
        case measure => omega
        case rel =>
          refine ⟨(i + j) / 2 + 1, j, by rw [show ((i : Int) + (j : Int)) / 2 + 1 = (((i + j) / 2 + 1 : Nat) : Int) by omega], rfl, by omega, by omega, by omega, Nat.le_refl _, S2, (show _ = _ from ?_)⟩
          rw [← heq.out]
          conv => rhs; rw [QV.bs]
          rw [dif_pos hlt, hlv, if_pos rfl]
      | false =>
        have hv38 : ¬ cf x38 y38 < 0 := by rw [hx38, hy38]; exact of_decide_eq_false hlv
        have hd38 : decide (cf x38 y38 < 0) = false := decide_eq_false hv38
        clear hx38 hy38
        go_wp2_with fail
        go_quiet_grown (first | (go_at_fn g; refine Calls.grown_of (hc38 _ _)))
        have S2 : Aside (SWK enc k w0 blk off d (grow (wr.drewN nq) osq)) := S1.out.grown nq osq
        clear l38a l38b hc38 S1
        generalize grow (wr.drewN nq) osq = w2 at S2 ⊢
        clear nq osq
        go_wp2
        go_roundg ((i + j) / 2 - i)
        case measure => omega
        case rel =>
          refine ⟨i, (i + j) / 2, rfl, by rw [show ((i : Int) + (j : Int)) / 2 = (((i + j) / 2 : Nat) : Int) by omega], by omega, by omega, by omega, Nat.le_refl _, S2, (show _ = _ from ?_)⟩
          rw [← heq.out]
          conv => rhs; rw [QV.bs]
          rw [dif_pos hlt, hlv, if_neg (by decide)]
    · have hltz : ¬ (i : Int) < (j : Int) := by omega
      obtain rfl : j = i := by omega
      have hr : Aside (QV.bs (fun h => ltOf cf d[h]! d[a]!) m b = j) := by
        show _ = _
        rw [← heq.out, QV.bs, dif_neg hlt]
      clear heq
      go_wp2
      go_loopg [13] (j - 1 - a) (fun kx s13 wq => ∃ (t : Nat) (dk : Array α), s13 = .int .i64 (a + t : Nat) ∧ t ≤ j - 1 - a ∧ j - 1 - a - t ≤ kx ∧ dk.size = d.size ∧ Aside (SWK enc k w0 blk off dk wq) ∧ Aside (dk = QV.shR a t d))
      case atStart => exact ⟨0, d, rfl, by omega, by omega, rfl, S1, rfl⟩
      case round =>
        clear S1
        obtain ⟨t, dk, rfl, ht, hkt, hds, S3, hdk⟩ := hrel
        by_cases htl : t < j - 1 - a
        · have hz : ((a + t : Nat) : Int) < (j : Int) - 1 := by omega
          go_wp2_with fail
          have ea44 : (((a + t : Nat) : Int)).toNat = a + t := by omega
          have pa44 : (0 : Int) ≤ ((a + t : Nat) : Int) := by omega
          have ba44 : ((a + t : Nat) : Int) < (d.size : Int) := by omega
          have ec44 : (((a + t : Nat) : Int) + 1).toNat = a + t + 1 := by omega
          have pc44 : (0 : Int) ≤ ((a + t : Nat) : Int) + 1 := by omega
          have bc44 : ((a + t : Nat) : Int) + 1 < (d.size : Int) := by omega
          have rc44 : IntKind.i64.wrap (((a + t : Nat) : Int) + 1) = ((a + t : Nat) : Int) + 1 := by rw [IntKind.wrap_i64]; omega
          have S2 : Aside (SWK enc k w0 blk off (swp dk (a + t) (a + t + 1)) ((wr.drew.setCells blk (off + (a + t) * k) (enc dk[a + t + 1]!)).setCells blk (off + (a + t + 1) * k) (enc dk[a + t]!))) := S3.out.swapped R (a + t) (a + t + 1) (by omega) (by omega)
          have l44a := S3.out.ld1 R (by omega) Tryz.prog (a + t) (by omega)
          have l44b := S3.out.ld1 R (by omega) Tryz.prog (a + t + 1) (by omega)
          have s44a := S3.out.st1 R (by omega) Tryz.prog (a + t) (by omega) dk[a + t + 1]!
          have s44b := S3.out.st2 R (by omega) Tryz.prog (a + t) (a + t + 1) (by omega) (by omega) dk[a + t + 1]! dk[a + t]!
          have n44a : (enc dk[a + t]!).length = k := R.hk _
          have n44b : (enc dk[a + t + 1]!).length = k := R.hk _
          generalize enc dk[a + t]! = cI44 at S2 l44a s44b n44a
          generalize enc dk[a + t + 1]! = cJ44 at S2 l44b s44a s44b n44b
          clear S3
          go_wp2_with fail
          go_big_region_o
          clear l44a l44b s44a s44b
          generalize (wr.drew.setCells blk (off + (a + t) * k) cJ44).setCells blk (off + (a + t + 1) * k) cI44 = w2 at S2 ⊢
          go_wp2
          go_roundg (j - 1 - a - (t + 1))
          case measure => omega
          case rel => exact ⟨t + 1, swp dk (a + t) (a + t + 1), by first | rfl | (congr 1; omega), by omega, Nat.le_refl _, by rw [size_swp]; exact hds, S2, by rw [hdk.out]; rfl⟩
        · have hz : ¬ ((a + t : Nat) : Int) < (j : Int) - 1 := by omega
          obtain rfl : t = j - 1 - a := by omega
          go_wp2
          (try simp only [Exit.inBlock, Exit.then]); refine bodyPost_ret (results_none rfl _ _ _) rfl ?_
          refine ⟨rfl, ?_⟩
          rw [hr.out, ← hdk.out]
          exact S3.out
end Go.Proofs

namespace Go.Proofs
open Go.Shelf Go.RowKit Go.Lib Go.Sort
variable {α : Type} [Inhabited α]
set_option maxHeartbeats 8000000 in
set_option maxRecDepth 1000000 in
theorem QV.symLast_calls (k : Nat) (aE : ∀ w, (isAgg 50).run Tryz.prog w = .ok true w) (zE : ∀ w, (Go.sizeOf 50).run Tryz.prog w = .ok k w) (enc : α → List Value) (cf : α → α → Int) (g : Nat) (cb : Array Value) (blk off cap a m b : Nat) (d0 d : Array α) (w0 w : World)
    (eg : ∀ args w, (callFunc g args).run Tryz.prog w = .ok (.enter g args) w) (hcmp : CmpLays Tryz.prog g cb enc k cf blk off d0.size w0) (R : RowK enc k w0 blk off d0) (hs : d0.size = d.size) (S : SWK enc k w0 blk off d w) (ham : a + 1 < m) (hmb : b = m + 1) (hb : b ≤ d.size) (hsz : d.size < 4611686018427387904) :
    Calls Tryz.prog 99 #[.slice (some ⟨blk, off, none⟩) d.size cap, .int .i64 a, .int .i64 m, .int .i64 b, .func (.func g) #[] cb] w fun e w' => e = .returned (.tuple #[]) ∧ SWK enc k w0 blk off (QV.shL m (m - QV.bs (fun h => !ltOf cf d[m]! d[h]!) a m) d) w' := by
  have mixed : Tryz.prog.follows .mixedOrders = true := by kernel_rfl
  have t0 := Tryz.underlying0; have a0 := Tryz.isAgg0; have z0 := Tryz.sizeOf0; have v0 := Tryz.zeroValue0; have t3 := Tryz.underlying3; have a3 := Tryz.isAgg3; have z3 := Tryz.sizeOf3; have v3 := Tryz.zeroValue3; have t4 := Tryz.underlying4; have a4 := Tryz.isAgg4; have z4 := Tryz.sizeOf4; have v4 := Tryz.zeroValue4; have t22 := Tryz.underlying24; have a22 := Tryz.isAgg24; have z22 := Tryz.sizeOf24; have v22 := Tryz.zeroValue24; have t25 := Tryz.underlying55; have a25 := Tryz.isAgg55; have z25 := Tryz.sizeOf55; have v25 := Tryz.zeroValue55
  have t35 := Tryz.underlying159; have a35 := Tryz.isAgg159; have z35 := Tryz.sizeOf159; have v35 := Tryz.zeroValue159
  have u3 := run_underlying Tryz.underlying3; have u4 := run_underlying Tryz.underlying4; have u35 := run_underlying Tryz.underlying159
  have FG := Tryz.func99
  have FN : Tryz.f99.ntmps = 220 := rfl
  have HC : Aside _ := hcmp
  have S0 : Aside (SWK enc k w0 blk off d w) := S
  clear S hcmp
  have hb1 : ((m : Int) - (a : Int) == 1) = false := beq_eq_false_iff_ne.2 (by omega)
  have hb2 : ((b : Int) - (m : Int) == 1) = true := by rw [show (b : Int) - (m : Int) = 1 by omega]; rfl
  have HMB : Aside (b = m + 1) := hmb
  have hmb' : m < b := by omega
  clear hmb
  go_enter FG, FN
  go_wp2
  go_loopg [14, 15] (m - a) (fun kx s10 s11 wr => ∃ (i j : Nat), s10 = .int .i64 i ∧ s11 = .int .i64 j ∧ a ≤ i ∧ i ≤ j ∧ j ≤ m ∧ j - i ≤ kx ∧ Aside (SWK enc k w0 blk off d wr) ∧ Aside (QV.bs (fun h => !ltOf cf d[m]! d[h]!) i j = QV.bs (fun h => !ltOf cf d[m]! d[h]!) a m))
  case atStart => exact ⟨a, m, rfl, rfl, by omega, by omega, by omega, by omega, S0, rfl⟩
  case round =>
    clear S0
    obtain ⟨i, j, rfl, rfl, hmi, hij, hjb, hkx, S1, heq⟩ := hrel
    by_cases hlt : i < j
    · have hltz : (i : Int) < (j : Int) := by omega
      have ea38 : (((i : Int) + (j : Int)) / 2).toNat = (i + j) / 2 := by omega
      have pa38 : (0 : Int) ≤ ((i : Int) + (j : Int)) / 2 := by omega
      have ba38 : ((i : Int) + (j : Int)) / 2 < (d.size : Int) := by omega
      have ra38 : IntKind.i64.wrap (((i : Int) + (j : Int)) / 2) = ((i : Int) + (j : Int)) / 2 := by rw [IntKind.wrap_i64]; omega
      have ec38 : ((m : Int)).toNat = m := by omega
      have pc38 : (0 : Int) ≤ (m : Int) := by omega
      have bc38 : (m : Int) < (d.size : Int) := by omega
      obtain ⟨x38, hx38⟩ : ∃ x, x = d[m]! := ⟨_, rfl⟩
      obtain ⟨y38, hy38⟩ : ∃ x, x = d[(i + j) / 2]! := ⟨_, rfl⟩
      have l38a := S1.out.ld R (by omega) Tryz.prog m (by omega)
      have l38b := S1.out.ld R (by omega) Tryz.prog ((i + j) / 2) (by omega)
      rw [← hx38] at l38a
      rw [← hy38] at l38b
      have hc38 := S1.out.cmp HC.out (by omega) x38 y38
      cases hlv : ltOf cf d[m]! d[(i + j) / 2]! with
      | true =>
        have hv38 : cf x38 y38 < 0 := by rw [hx38, hy38]; exact of_decide_eq_true hlv
        have hd38 : decide (cf x38 y38 < 0) = true := decide_eq_true hv38
        clear hx38 hy38
        go_wp2_with fail
        go_quiet_grown (first | (go_at_fn g; refine Calls.grown_of (hc38 _ _)))
        have S2 : Aside (SWK enc k w0 blk off d (grow (wr.drewN nq) osq)) := S1.out.grown nq osq
        clear l38a l38b hc38 S1
        generalize grow (wr.drewN nq) osq = w2 at S2 ⊢
        clear nq osq
        go_wp2
        go_roundg ((i + j) / 2 - i)
        case measure => omega
        case rel =>
          refine ⟨i, (i + j) / 2, rfl, by rw [show ((i : Int) + (j : Int)) / 2 = (((i + j) / 2 : Nat) : Int) by omega], by omega, by omega, by omega, Nat.le_refl _, S2, (show _ = _ from ?_)⟩
          rw [← heq.out]
          conv => rhs; rw [QV.bs]
          rw [dif_pos hlt, hlv]
          rfl
      | false =>
        have hv38 : ¬ cf x38 y38 < 0 := by rw [hx38, hy38]; exact of_decide_eq_false hlv
        have hd38 : decide (cf x38 y38 < 0) = false := decide_eq_false hv38
        clear hx38 hy38
        go_wp2_with fail
        go_quiet_grown (first | (go_at_fn g; refine Calls.grown_of (hc38 _ _)))
        have S2 : Aside (SWK enc k w0 blk off d (grow (wr.drewN nq) osq)) := S1.out.grown nq osq
        clear l38a l38b hc38 S1
        generalize grow (wr.drewN nq) osq = w2 at S2 ⊢
        clear nq osq
        go_wp2
        go_roundg (j - ((i + j) / 2 + 1))
        case measure => omega
        case rel =>
          refine ⟨(i + j) / 2 + 1, j, by rw [show ((i : Int) + (j : Int)) / 2 + 1 = (((i + j) / 2 + 1 : Nat) : Int) by omega], rfl, by omega, by omega, by omega, Nat.le_refl _, S2, (show _ = _ from ?_)⟩
          rw [← heq.out]
          conv => rhs; rw [QV.bs]
          rw [dif_pos hlt, hlv]
          rfl
    · have hltz : ¬ (i : Int) < (j : Int) := by omega
      obtain rfl : j = i := by omega
      have hr : Aside (QV.bs (fun h => !ltOf cf d[m]! d[h]!) a m = j) := by
        show _ = _
        rw [← heq.out, QV.bs, dif_neg hlt]
      clear heq
      go_wp2
      go_loopg [17] (m - j) (fun kx s13 wq => ∃ (t : Nat) (dk : Array α), s13 = .int .i64 (m - t : Nat) ∧ t ≤ m - j ∧ m - j - t ≤ kx ∧ dk.size = d.size ∧ Aside (SWK enc k w0 blk off dk wq) ∧ Aside (dk = QV.shL m t d))
      case atStart => exact ⟨0, d, rfl, by omega, by omega, rfl, S1, rfl⟩
      case round =>
        clear S1
        obtain ⟨t, dk, rfl, ht, hkt, hds, S3, hdk⟩ := hrel
        by_cases htl : t < m - j
        · have hz : (j : Int) < ((m - t : Nat) : Int) := by omega
          obtain ⟨p, hp⟩ : ∃ p, m - t = p + 1 := ⟨m - t - 1, by omega⟩
          have hsh : Aside (m - t = p + 1) := hp
          rw [hp] at hz ⊢
          have hpd : p + 1 < d.size := by omega
          have hpj : j ≤ p := by omega
          clear hp
          go_wp2_with fail
          have ea44 : ((p : Int) + 1).toNat = p + 1 := by omega
          have pa44 : (0 : Int) ≤ (p : Int) + 1 := by omega
          have ba44 : (p : Int) + 1 < (d.size : Int) := by omega
          have ec44 : ((p : Int)).toNat = p := by omega
          have pc44 : (0 : Int) ≤ (p : Int) := by omega
          have bc44 : (p : Int) < (d.size : Int) := by omega
          have rc44 : IntKind.i64.wrap (p : Int) = (p : Int) := by rw [IntKind.wrap_i64]; omega
          have S2 : Aside (SWK enc k w0 blk off (swp dk (p + 1) p) ((wr.drew.setCells blk (off + (p + 1) * k) (enc dk[p]!)).setCells blk (off + p * k) (enc dk[p + 1]!))) := S3.out.swapped R (p + 1) p (by omega) (by omega)
          have l44a := S3.out.ld1 R (by omega) Tryz.prog (p + 1) (by omega)
          have l44b := S3.out.ld1 R (by omega) Tryz.prog p (by omega)
          have s44a := S3.out.st1 R (by omega) Tryz.prog (p + 1) (by omega) dk[p]!
          have s44b := S3.out.st2 R (by omega) Tryz.prog (p + 1) p (by omega) (by omega) dk[p]! dk[p + 1]!
          have n44a : (enc dk[p + 1]!).length = k := R.hk _
          have n44b : (enc dk[p]!).length = k := R.hk _
          generalize enc dk[p + 1]! = cI44 at S2 l44a s44b n44a
          generalize enc dk[p]! = cJ44 at S2 l44b s44a s44b n44b
          clear S3
          go_wp2_with fail
          go_big_region_o
          clear l44a l44b s44a s44b
          generalize (wr.drew.setCells blk (off + (p + 1) * k) cJ44).setCells blk (off + p * k) cI44 = w2 at S2 ⊢
          go_wp2
          go_roundg (m - j - (t + 1))
          case measure => omega
          case rel => exact ⟨t + 1, swp dk (p + 1) p, by first | rfl | (have := hsh.out; congr 1; omega), by omega, Nat.le_refl _, by rw [size_swp]; exact hds, S2, by have h := hsh.out; show _ = swp (QV.shL m t d) (m - t) (m - t - 1); rw [hdk.out, h, Nat.add_sub_cancel]⟩
        · have hz : ¬ (j : Int) < ((m - t : Nat) : Int) := by omega
          obtain rfl : t = m - j := by omega
          go_wp2
          (try simp only [Exit.inBlock, Exit.then]); refine bodyPost_ret (results_none rfl _ _ _) rfl ?_
          refine ⟨rfl, ?_⟩
          rw [hr.out, ← hdk.out]
          exact S3.out
end Go.Proofs

namespace Go.Proofs
open Go.Shelf Go.RowKit Go.Lib Go.Sort
variable {α : Type} [Inhabited α]
set_option maxHeartbeats 8000000 in
set_option maxRecDepth 1000000 in
theorem QV.symMany_calls (k : Nat) (aE : ∀ w, (isAgg 50).run Tryz.prog w = .ok true w) (zE : ∀ w, (Go.sizeOf 50).run Tryz.prog w = .ok k w) (enc : α → List Value) (cf : α → α → Int) (g : Nat) (cb : Array Value) (blk off cap a m b gg : Nat) (d0 d : Array α) (w0 w : World)
    (eg : ∀ args w, (callFunc g args).run Tryz.prog w = .ok (.enter g args) w) (hcmp : CmpLays Tryz.prog g cb enc k cf blk off d0.size w0) (R : RowK enc k w0 blk off d0) (hs : d0.size = d.size) (S : SWK enc k w0 blk off d w) (ham : a + 1 < m) (hmb : m + 1 < b) (hb : b ≤ d.size) (hsz : d.size < 4611686018427387904) (hgg : b - a ≤ gg + 1)
    (ih : ∀ (a' m' b' : Nat) (d' : Array α) (w' : World), d'.size = d.size → SWK enc k w0 blk off d' w' → b' - a' ≤ gg → a' < m' → m' < b' → b' ≤ d.size →
      Calls Tryz.prog 99 #[.slice (some ⟨blk, off, none⟩) d.size cap, .int .i64 a', .int .i64 m', .int .i64 b', .func (.func g) #[] cb] w' fun e w'' => e = .returned (.tuple #[]) ∧ SWK enc k w0 blk off (QV.symM (ltOf cf) gg a' m' b' d') w'') :
    Calls Tryz.prog 99 #[.slice (some ⟨blk, off, none⟩) d.size cap, .int .i64 a, .int .i64 m, .int .i64 b, .func (.func g) #[] cb] w fun e w' => e = .returned (.tuple #[]) ∧ SWK enc k w0 blk off (QV.symM (ltOf cf) (gg + 1) a m b d) w' := by
  have mixed : Tryz.prog.follows .mixedOrders = true := by kernel_rfl
  have t0 := Tryz.underlying0; have a0 := Tryz.isAgg0; have z0 := Tryz.sizeOf0; have v0 := Tryz.zeroValue0; have t3 := Tryz.underlying3; have a3 := Tryz.isAgg3; have z3 := Tryz.sizeOf3; have v3 := Tryz.zeroValue3; have t4 := Tryz.underlying4; have a4 := Tryz.isAgg4; have z4 := Tryz.sizeOf4; have v4 := Tryz.zeroValue4; have t22 := Tryz.underlying24; have a22 := Tryz.isAgg24; have z22 := Tryz.sizeOf24; have v22 := Tryz.zeroValue24; have t25 := Tryz.underlying55; have a25 := Tryz.isAgg55; have z25 := Tryz.sizeOf55; have v25 := Tryz.zeroValue55
  have t35 := Tryz.underlying159; have a35 := Tryz.isAgg159; have z35 := Tryz.sizeOf159; have v35 := Tryz.zeroValue159
  have u3 := run_underlying Tryz.underlying3; have u4 := run_underlying Tryz.underlying4; have u35 := run_underlying Tryz.underlying159
  have FG := Tryz.func99
  have FN : Tryz.f99.ntmps = 220 := rfl
  have E182 : ∀ args w, (callFunc 116 args).run Tryz.prog w = .ok (.enter 116 args) w := enters_of Tryz.func116 (by kernel_rfl) rfl
  have E161 : ∀ args w, (callFunc 99 args).run Tryz.prog w = .ok (.enter 99 args) w := enters_of Tryz.func99 (by kernel_rfl) rfl
  have HC : Aside _ := hcmp
  have S0 : Aside (SWK enc k w0 blk off d w) := S
  have IH : Aside _ := ih
  clear S hcmp ih
  have hb1 : ((m : Int) - (a : Int) == 1) = false := beq_eq_false_iff_ne.2 (by omega)
  have hb2 : ((b : Int) - (m : Int) == 1) = false := beq_eq_false_iff_ne.2 (by omega)
  obtain ⟨C1, C2, C3, C4, _, _⟩ := QV.cut_facts (lt := ltOf cf) (d := d) (show a < m by omega) (show m < b by omega)
  obtain ⟨sz, hsz0⟩ : ∃ s, QV.cutS (ltOf cf) d a m b = s := ⟨_, rfl⟩
  rw [hsz0] at C1 C2 C3 C4
  have RES : Aside (QV.symM (ltOf cf) (gg + 1) a m b d = (if (a + b) / 2 < (a + b) / 2 + m - sz ∧ (a + b) / 2 + m - sz < b then QV.symM (ltOf cf) gg ((a + b) / 2) ((a + b) / 2 + m - sz) b (if a < sz ∧ sz < (a + b) / 2 then QV.symM (ltOf cf) gg a sz ((a + b) / 2) (QV.rotS d a m b sz) else QV.rotS d a m b sz) else (if a < sz ∧ sz < (a + b) / 2 then QV.symM (ltOf cf) gg a sz ((a + b) / 2) (QV.rotS d a m b sz) else QV.rotS d a m b sz))) := by
    show _ = _
    rw [QV.symM, if_neg (by omega), if_neg (by omega)]
    simp only [hsz0]
  have CUT : Aside (QV.bs (fun c => !ltOf cf d[(a + b) / 2 + m - 1 - c]! d[c]!) (if (a + b) / 2 < m then (a + b) / 2 + m - b else a) (if (a + b) / 2 < m then (a + b) / 2 else m) = sz) := hsz0
  clear hsz0
  obtain ⟨s0, hs0⟩ : ∃ s, (if (a + b) / 2 < m then (a + b) / 2 + m - b else a) = s := ⟨_, rfl⟩
  obtain ⟨r0, hr0⟩ : ∃ s, (if (a + b) / 2 < m then (a + b) / 2 else m) = s := ⟨_, rfl⟩
  have HS : Aside ((if (a + b) / 2 < m then (a + b) / 2 + m - b else a) = s0 ∧ (if (a + b) / 2 < m then (a + b) / 2 else m) = r0) := ⟨hs0, hr0⟩
  have CUT' : Aside (QV.bs (fun c => !ltOf cf d[(a + b) / 2 + m - 1 - c]! d[c]!) s0 r0 = sz) := by
    have h := CUT.out
    rw [hs0, hr0] at h
    exact h
  have B1 : s0 ≤ r0 := by rw [← hs0, ← hr0]; split <;> omega
  have B2 : a ≤ s0 := by rw [← hs0]; split <;> omega
  have B3 : r0 ≤ m := by rw [← hr0]; split <;> omega
  have B4 : r0 ≤ (a + b) / 2 := by rw [← hr0]; split <;> omega
  have B5 : (a + b) / 2 + m - s0 ≤ b := by rw [← hs0]; split <;> omega
  clear CUT hs0 hr0
  go_enter FG, FN
  go_upto_if 140 with fail
  go_cut [20, 21] from 25 (fun s20 s21 wc => s20 = .int .i64 s0 ∧ s21 = .int .i64 r0 ∧ Aside (SWK enc k w0 blk off d wc))
  case first =>
    as_aux_lemma =>
      by_cases hmm : (a + b) / 2 < m
      · have hmz : ((a : Int) + (b : Int)) / 2 < (m : Int) := by omega
        have h := HS.out
        rw [if_pos hmm, if_pos hmm] at h
        obtain ⟨h1, h2⟩ := h
        have H12 : Aside ((a + b) / 2 + m - b = s0 ∧ (a + b) / 2 = r0) := ⟨h1, h2⟩
        clear h1 h2
        go_wp2_with fail
        go_meet
        case rel => exact ⟨by have := H12.out.1; congr 1; omega, by have := H12.out.2; congr 1; omega, S0⟩
      · have hmz : ¬ ((a : Int) + (b : Int)) / 2 < (m : Int) := by omega
        have h := HS.out
        rw [if_neg hmm, if_neg hmm] at h
        obtain ⟨h1, h2⟩ := h
        have H12 : Aside (a = s0 ∧ m = r0) := ⟨h1, h2⟩
        clear h1 h2
        go_wp2_with fail
        go_meet
        case rel => exact ⟨by rw [H12.out.1], by rw [H12.out.2], S0⟩
  case rest =>
    clear S0
    obtain ⟨rfl, rfl, S0⟩ := hcut
    go_wp2
    go_loopg [20, 21] (r0 - s0) (fun kx s20 s21 wr => ∃ (i j : Nat), s20 = .int .i64 i ∧ s21 = .int .i64 j ∧ s0 ≤ i ∧ i ≤ j ∧ j ≤ r0 ∧ j - i ≤ kx ∧ Aside (SWK enc k w0 blk off d wr) ∧ Aside (QV.bs (fun c => !ltOf cf d[(a + b) / 2 + m - 1 - c]! d[c]!) i j = sz))
    case atStart => exact ⟨s0, r0, rfl, rfl, by omega, by omega, by omega, by omega, S0, CUT'⟩
    case round =>
      clear S0
      obtain ⟨i, j, rfl, rfl, hmi, hij, hjb, hkx, S1, heq⟩ := hrel
      by_cases hlt : i < j
      · have hltz : (i : Int) < (j : Int) := by omega
        have ea38 : (((a : Int) + (b : Int)) / 2 + (m : Int) - 1 - ((i : Int) + (j : Int)) / 2).toNat = (a + b) / 2 + m - 1 - (i + j) / 2 := by omega
        have pa38 : (0 : Int) ≤ ((a : Int) + (b : Int)) / 2 + (m : Int) - 1 - ((i : Int) + (j : Int)) / 2 := by omega
        have ba38 : ((a : Int) + (b : Int)) / 2 + (m : Int) - 1 - ((i : Int) + (j : Int)) / 2 < (d.size : Int) := by omega
        have pb38 : ((i : Int) + (j : Int)) / 2 ≤ ((a : Int) + (b : Int)) / 2 + (m : Int) - 1 := by omega
        have ra38 : IntKind.i64.wrap (((a : Int) + (b : Int)) / 2 + (m : Int) - 1 - ((i : Int) + (j : Int)) / 2) = ((a : Int) + (b : Int)) / 2 + (m : Int) - 1 - ((i : Int) + (j : Int)) / 2 := by rw [IntKind.wrap_i64]; omega
        have ec38 : (((i : Int) + (j : Int)) / 2).toNat = (i + j) / 2 := by omega
        have pc38 : (0 : Int) ≤ ((i : Int) + (j : Int)) / 2 := by omega
        have bc38 : ((i : Int) + (j : Int)) / 2 < (d.size : Int) := by omega
        obtain ⟨x38, hx38⟩ : ∃ x, x = d[(a + b) / 2 + m - 1 - (i + j) / 2]! := ⟨_, rfl⟩
        obtain ⟨y38, hy38⟩ : ∃ x, x = d[(i + j) / 2]! := ⟨_, rfl⟩
        have l38a := S1.out.ld R (by omega) Tryz.prog ((a + b) / 2 + m - 1 - (i + j) / 2) (by omega)
        have l38b := S1.out.ld R (by omega) Tryz.prog ((i + j) / 2) (by omega)
        rw [← hx38] at l38a
        rw [← hy38] at l38b
        have hc38 := S1.out.cmp HC.out (by omega) x38 y38
        cases hlv : ltOf cf d[(a + b) / 2 + m - 1 - (i + j) / 2]! d[(i + j) / 2]! with
        | true =>
          as_aux_lemma =>
            have hv38 : cf x38 y38 < 0 := by rw [hx38, hy38]; exact of_decide_eq_true hlv
            have hd38 : decide (cf x38 y38 < 0) = true := decide_eq_true hv38
            clear hx38 hy38
            go_wp2_with fail
            go_quiet_grown (first | (go_at_fn g; refine Calls.grown_of (hc38 _ _)))
            have S2 : Aside (SWK enc k w0 blk off d (grow (wr.drewN nq) osq)) := S1.out.grown nq osq
            clear l38a l38b hc38 S1
            generalize grow (wr.drewN nq) osq = w2 at S2 ⊢
            clear nq osq
            go_wp2
            go_roundg ((i + j) / 2 - i)
            case measure => omega
            case rel =>
              refine ⟨i, (i + j) / 2, rfl, by rw [show ((i : Int) + (j : Int)) / 2 = (((i + j) / 2 : Nat) : Int) by omega], by omega, by omega, by omega, Nat.le_refl _, S2, (show _ = _ from ?_)⟩
              have h := heq.out
              rw [QV.bs, dif_pos hlt] at h
              simp only [hlv, Bool.not_true, Bool.not_false, if_true, Bool.false_eq_true, if_false] at h
              exact h
        | false =>
          as_aux_lemma =>
            have hv38 : ¬ cf x38 y38 < 0 := by rw [hx38, hy38]; exact of_decide_eq_false hlv
            have hd38 : decide (cf x38 y38 < 0) = false := decide_eq_false hv38
            clear hx38 hy38
            go_wp2_with fail
            go_quiet_grown (first | (go_at_fn g; refine Calls.grown_of (hc38 _ _)))
            have S2 : Aside (SWK enc k w0 blk off d (grow (wr.drewN nq) osq)) := S1.out.grown nq osq
            clear l38a l38b hc38 S1
            generalize grow (wr.drewN nq) osq = w2 at S2 ⊢
            clear nq osq
            go_wp2
            go_roundg (j - ((i + j) / 2 + 1))
            case measure => omega
            case rel =>
              refine ⟨(i + j) / 2 + 1, j, by rw [show ((i : Int) + (j : Int)) / 2 + 1 = (((i + j) / 2 + 1 : Nat) : Int) by omega], rfl, by omega, by omega, by omega, Nat.le_refl _, S2, (show _ = _ from ?_)⟩
              have h := heq.out
              rw [QV.bs, dif_pos hlt] at h
              simp only [hlv, Bool.not_true, Bool.not_false, if_true, Bool.false_eq_true, if_false] at h
              exact h
      · have hltz : ¬ (i : Int) < (j : Int) := by omega
        obtain rfl : j = i := by omega
        have hr : Aside (j = sz) := by
          have h := heq.out
          rw [QV.bs, dif_neg hlt] at h
          exact h
        clear heq
        have hj := hr.out
        subst hj
        clear hr
        obtain ⟨md, hmd⟩ : ∃ x, (a + b) / 2 = x := ⟨_, rfl⟩
        obtain ⟨en, hen⟩ : ∃ x, (a + b) / 2 + m - j = x := ⟨_, rfl⟩
        have z1 : (QV.rotS d a m b j).size = d.size := by
          unfold QV.rotS
          split
          · exact QV.size_rot _ _ _ _ _ (Nat.le_refl _)
          · rfl
        have n1 : a < md := by omega
        have n2 : md < b := by omega
        have n3 : j ≤ md := by omega
        have n4 : en ≤ b := by omega
        have n5 : md ≤ en := by omega
        have n6 : b - md ≤ gg := by omega
        have n7 : md - a ≤ gg := by omega
        have n8 : b ≤ d.size := hb
        have n9 : a ≤ j := by omega
        have nm : j ≤ m := by omega
        have ne : m - j = en - md := by omega
        have EE : Aside ((en : Int) = ((a : Int) + (b : Int)) / 2 + (m : Int) - (j : Int) ∧ (md : Int) = ((a : Int) + (b : Int)) / 2) := ⟨by omega, by omega⟩
        have e1 : QV.rotS d a m b j = if j < m ∧ m < en then QV.rot m (m - j) (en - m) d else d := by
          unfold QV.rotS
          rw [hen, hmd, show en - m = md - j by omega]
        have RES1 : Aside (QV.symM (ltOf cf) (gg + 1) a m b d = if md < en ∧ en < b then QV.symM (ltOf cf) gg md en b (if a < j ∧ j < md then QV.symM (ltOf cf) gg a j md (QV.rotS d a m b j) else QV.rotS d a m b j) else (if a < j ∧ j < md then QV.symM (ltOf cf) gg a j md (QV.rotS d a m b j) else QV.rotS d a m b j)) := by
          have h := RES.out
          rw [hen, hmd] at h
          exact h
        obtain ⟨D1, hD1⟩ : ∃ x, QV.rotS d a m b j = x := ⟨_, rfl⟩
        rw [hD1] at z1 e1 RES1
        obtain ⟨D2, hD2⟩ : ∃ x, (if a < j ∧ j < md then QV.symM (ltOf cf) gg a j md D1 else D1) = x := ⟨_, rfl⟩
        rw [hD2] at RES1
        have RES2 : Aside _ := RES1.out
        have z2 : D2.size = d.size := by
          rw [← hD2]
          split
          · rw [QV.size_symM, z1]
          · exact z1
        have HD1 : Aside _ := e1
        have HD2 : Aside ((if a < j ∧ j < md then QV.symM (ltOf cf) gg a j md D1 else D1) = D2) := hD2
        clear RES RES1 CUT' HS hmd hen hD1 hD2 e1 C1 C2 C3 C4 B1 B2 B3 B4 B5 hmi hij hjb hkx hltz hlt
        go_upto_region 39 with fail
        rw [← EE.out.1, ← EE.out.2]
        go_cut [185] from 25 (fun st wx => st = .bool (decide (j < m ∧ m < en)) ∧ wx = wr)
        case first =>
          as_aux_lemma =>
            by_cases hA : j < m
            · have hy1 : ((j : Nat) : Int) < ((m : Nat) : Int) := by omega
              by_cases hB : m < en
              · have hy2 : ((m : Nat) : Int) < ((en : Nat) : Int) := by omega
                have hP : decide (j < m ∧ m < en) = true := decide_eq_true ⟨hA, hB⟩
                go_wp2_with fail
                go_meet
                case rel => exact ⟨by rw [hP], rfl⟩
              · have hy2 : ¬ ((m : Nat) : Int) < ((en : Nat) : Int) := by omega
                have hP : decide (j < m ∧ m < en) = false := decide_eq_false fun h => hB h.2
                go_wp2_with fail
                go_meet
                case rel => exact ⟨by rw [hP], rfl⟩
            · have hy1 : ¬ ((j : Nat) : Int) < ((m : Nat) : Int) := by omega
              have hP : decide (j < m ∧ m < en) = false := decide_eq_false fun h => hA h.1
              go_wp2_with fail
              go_meet
              case rel => exact ⟨by rw [hP], rfl⟩
        case rest =>
          obtain ⟨rfl, rfl⟩ := hcut
          go_upto_if 185 with fail
          go_cut [20] from 25 (fun s20 wc => s20 = .int .i64 j ∧ Aside (SWK enc k w0 blk off D1 wc))
          case first =>
            as_aux_lemma =>
              cases hT : decide (j < m ∧ m < en) with
              | true =>
                have h1 := of_decide_eq_true hT
                have hc := QV.rotate_calls k aE zE enc g cb blk off cap j m en d0 d w0 wc R hs S1.out h1.1 h1.2 (by omega) hsz
                have e1 := HD1.out
                rw [if_pos h1] at e1
                rw [← e1] at hc
                clear S1 e1 HD1
                go_wp2_with (go_at_fn 116; refine hc.mono ?_; rintro e w1 ⟨rfl, hw1⟩)
                go_meet
                case rel => exact ⟨rfl, hw1⟩
              | false =>
                have h1 := of_decide_eq_false hT
                have S2 : Aside (SWK enc k w0 blk off D1 wc) := by
                  rw [HD1.out, if_neg h1]
                  exact S1
                clear S1 HD1
                go_wp2_with fail
                go_meet
                case rel => exact ⟨rfl, S2⟩
          case rest =>
            clear S1 HD1
            obtain ⟨rfl, S1⟩ := hcut
            go_upto_region 41 with fail
            go_cut [199] from 25 (fun st wx => st = .bool (decide (a < j ∧ j < md)) ∧ wx = wc)
            case first =>
              as_aux_lemma =>
                by_cases hA : a < j
                · have hy1 : ((a : Nat) : Int) < ((j : Nat) : Int) := by omega
                  by_cases hB : j < md
                  · have hy2 : ((j : Nat) : Int) < ((md : Nat) : Int) := by omega
                    have hP : decide (a < j ∧ j < md) = true := decide_eq_true ⟨hA, hB⟩
                    go_wp2_with fail
                    go_meet
                    case rel => exact ⟨by rw [hP], rfl⟩
                  · have hy2 : ¬ ((j : Nat) : Int) < ((md : Nat) : Int) := by omega
                    have hP : decide (a < j ∧ j < md) = false := decide_eq_false fun h => hB h.2
                    go_wp2_with fail
                    go_meet
                    case rel => exact ⟨by rw [hP], rfl⟩
                · have hy1 : ¬ ((a : Nat) : Int) < ((j : Nat) : Int) := by omega
                  have hP : decide (a < j ∧ j < md) = false := decide_eq_false fun h => hA h.1
                  go_wp2_with fail
                  go_meet
                  case rel => exact ⟨by rw [hP], rfl⟩
            case rest =>
              obtain ⟨rfl, rfl⟩ := hcut
              go_upto_if 199 with fail
              go_cut [20] from 25 (fun s20 wd => s20 = .int .i64 j ∧ Aside (SWK enc k w0 blk off D2 wd))
              case first =>
                as_aux_lemma =>
                  cases hT : decide (a < j ∧ j < md) with
                  | true =>
                    have h2 := of_decide_eq_true hT
                    have hc := IH.out a j md D1 wc z1 S1.out n7 h2.1 h2.2 (by omega)
                    have e1 := HD2.out
                    rw [if_pos h2] at e1
                    rw [e1] at hc
                    clear S1 e1 HD2
                    go_wp2_with (go_at_fn 99; refine hc.mono ?_; rintro e w1 ⟨rfl, hw1⟩)
                    go_meet
                    case rel => exact ⟨rfl, hw1⟩
                  | false =>
                    have h2 := of_decide_eq_false hT
                    have S2 : Aside (SWK enc k w0 blk off D2 wc) := by
                      rw [← HD2.out, if_neg h2]
                      exact S1
                    clear S1 HD2
                    go_wp2_with fail
                    go_meet
                    case rel => exact ⟨rfl, S2⟩
              case rest =>
                clear S1 HD2
                obtain ⟨rfl, S1⟩ := hcut
                go_upto_region 43 with fail
                go_cut [213] from 25 (fun st wx => st = .bool (decide (md < en ∧ en < b)) ∧ wx = wc)
                case first =>
                  as_aux_lemma =>
                    by_cases hA : md < en
                    · have hy1 : ((md : Nat) : Int) < ((en : Nat) : Int) := by omega
                      by_cases hB : en < b
                      · have hy2 : ((en : Nat) : Int) < ((b : Nat) : Int) := by omega
                        have hP : decide (md < en ∧ en < b) = true := decide_eq_true ⟨hA, hB⟩
                        go_wp2_with fail
                        go_meet
                        case rel => exact ⟨by rw [hP], rfl⟩
                      · have hy2 : ¬ ((en : Nat) : Int) < ((b : Nat) : Int) := by omega
                        have hP : decide (md < en ∧ en < b) = false := decide_eq_false fun h => hB h.2
                        go_wp2_with fail
                        go_meet
                        case rel => exact ⟨by rw [hP], rfl⟩
                    · have hy1 : ¬ ((md : Nat) : Int) < ((en : Nat) : Int) := by omega
                      have hP : decide (md < en ∧ en < b) = false := decide_eq_false fun h => hA h.1
                      go_wp2_with fail
                      go_meet
                      case rel => exact ⟨by rw [hP], rfl⟩
                case rest =>
                  obtain ⟨rfl, rfl⟩ := hcut
                  cases hT : decide (md < en ∧ en < b) with
                  | true =>
                    have h3 := of_decide_eq_true hT
                    have hc := IH.out md en b D2 wc z2 S1.out n6 h3.1 h3.2 n8
                    have e1 := RES2.out
                    rw [if_pos h3] at e1
                    rw [← e1] at hc
                    clear S1 e1 RES2
                    go_wp2_with (go_at_fn 99; refine hc.mono ?_; rintro e w1 ⟨rfl, hw1⟩)
                    go_end0
                    exact ⟨rfl, hw1⟩
                  | false =>
                    have h3 := of_decide_eq_false hT
                    have S2 : Aside (SWK enc k w0 blk off (QV.symM (ltOf cf) (gg + 1) a m b d) wc) := by
                      rw [RES2.out, if_neg h3]
                      exact S1
                    clear S1 RES2
                    go_wp2_with fail
                    go_end0
                    exact ⟨rfl, S2.out⟩
end Go.Proofs

namespace Go.Proofs
open Go.Shelf Go.RowKit Go.Lib Go.Sort
variable {α : Type} [Inhabited α]
theorem QV.symMerge_calls (k : Nat) (aE : ∀ w, (isAgg 50).run Tryz.prog w = .ok true w) (zE : ∀ w, (Go.sizeOf 50).run Tryz.prog w = .ok k w) (enc : α → List Value) (cf : α → α → Int) (g : Nat) (cb : Array Value) (blk off cap : Nat) (d0 : Array α) (w0 : World)
    (eg : ∀ args w, (callFunc g args).run Tryz.prog w = .ok (.enter g args) w) (hcmp : CmpLays Tryz.prog g cb enc k cf blk off d0.size w0) (R : RowK enc k w0 blk off d0) (hsz : d0.size < 4611686018427387904) :
    ∀ (gg a m b : Nat) (d : Array α) (w : World), d.size = d0.size → SWK enc k w0 blk off d w → b - a ≤ gg → a < m → m < b → b ≤ d0.size →
    Calls Tryz.prog 99 #[.slice (some ⟨blk, off, none⟩) d0.size cap, .int .i64 a, .int .i64 m, .int .i64 b, .func (.func g) #[] cb] w fun e w' => e = .returned (.tuple #[]) ∧ SWK enc k w0 blk off (QV.symM (ltOf cf) gg a m b d) w' := by
  intro gg
  induction gg with
  | zero => intro a m b d w _ _ h1 h2 h3; omega
  | succ gg ih =>
    intro a m b d w hs S hgg ham hmb hb
    rw [← hs] at hb hsz ⊢
    by_cases c1 : m = a + 1
    · have h := QV.symOne_calls k aE zE enc cf g cb blk off cap a m b d0 d w0 w eg hcmp R hs.symm S c1 hmb hb hsz
      rw [QV.symM, if_pos (by omega)]
      exact h
    · by_cases c2 : b = m + 1
      · have h := QV.symLast_calls k aE zE enc cf g cb blk off cap a m b d0 d w0 w eg hcmp R hs.symm S (by omega) c2 hb hsz
        rw [QV.symM, if_neg (by omega), if_pos (by omega)]
        exact h
      · refine QV.symMany_calls k aE zE enc cf g cb blk off cap a m b gg d0 d w0 w eg hcmp R hs.symm S (by omega) (by omega) hb hsz (by omega) ?_
        intro a' m' b' d' w' h1 h2 h3 h4 h5 h6
        rw [hs]
        exact ih a' m' b' d' w' (by omega) h2 h3 h4 h5 (by omega)
end Go.Proofs
