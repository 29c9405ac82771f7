/- The law FnExactSameTokens, plainly: what the law's function computes is true. -/
import Derived.Test.YtdobbcpmpgpkcaaPure7
import Derived.Test.YtdobbcpmpgpkcaaV31
namespace Go.Proofs.YtdobbcpmpgpkcaaV
open Go
set_option linter.unusedSimpArgs false
/-- szTokenS' loop. -/
theorem l21L (l : List (List DC)) (hl : (l.length : Int) ≤ 9223372036854775807) : ∀ (m i : Nat) (left : Int), i + m = l.length → 0 ≤ left → left ≤ 1048576 →
    (∀ x ∈ l, ∃ (a : Int) (s : List UInt8) (b : Int), x = [.i a, .s s, .i b] ∧ s.length ≤ 9223372036854775807) →
    ∃ o, Evt2 E21L1 [.sl l, .i left, .i (i : Int)] o ∧ (o = .ret [.i (-1)] ∨ ∃ r, 0 ≤ r ∧ r ≤ left ∧ o = .ex 0 [.i r])
  | 0, i, left, hi, h0, h1, hx => by
    refine ⟨.ex 0 [.i left], Evt2.ex (Evt.of_eq fun k => ?_), .inr ⟨left, h0, Int.le_refl _, rfl⟩⟩
    simp only [E21L1, List.getD_cons_zero, List.getD_cons_succ, DC.ii_i, DC.ll_sl]
    rw [if_neg (by simp; omega)]
  | m + 1, i, left, hi, h0, h1, hx => by
    have hlt : i < l.length := by omega
    obtain ⟨a, s, b, he, hs⟩ := hx l[i] (List.getElem_mem hlt)
    have hg : l.getD i [] = [.i a, .s s, .i b] := by rw [List.getD_eq_getElem?_getD, List.getElem?_eq_getElem hlt, ← he]; rfl
    have hw : IntKind.i64.wrap (left - (s.length : Int)) = left - (s.length : Int) := wrap64 (by omega) (by omega)
    have hw2 : IntKind.i64.wrap ((i : Int) + 1) = ((i + 1 : Nat) : Int) := by rw [wrap64 (by omega) (by omega)]; simp
    have hc1 : (i : Int) < (l.length : Int) := by omega
    by_cases hneg : left - (s.length : Int) < 0
    · refine ⟨.ret [.i (-1)], Evt2.ret ⟨1, fun k hk => ?_⟩, .inl rfl⟩
      obtain ⟨k, rfl⟩ : ∃ j, k = j + 1 := ⟨k - 1, by omega⟩
      simp only [E21L1, List.getD_cons_zero, List.getD_cons_succ, DC.ii_i, DC.ll_sl, Int.toNat_natCast, hg, DC.ss_s, l17, hw, hneg, if_true, Out.bindR_ret]
      simp [hc1, hneg]
    · obtain ⟨o, h2, h3⟩ := l21L l hl m (i + 1) (left - (s.length : Int)) (by omega) (by omega) (by omega) hx
      refine ⟨o, Evt2.step (v' := [.sl l, .i (left - (s.length : Int)), .i ((i + 1 : Nat) : Int)]) ⟨1, fun k hk => ?_⟩ h2, ?_⟩
      · obtain ⟨k, rfl⟩ : ∃ j, k = j + 1 := ⟨k - 1, by omega⟩
        simp only [E21L1, List.getD_cons_zero, List.getD_cons_succ, DC.ii_i, DC.ll_sl, Int.toNat_natCast, hg, DC.ss_s, l17, hw, hneg, if_false, Out.bindR_ret]
        simp [hc1, hneg, hw2]
      · rcases h3 with h3 | ⟨r, h4, h5, h6⟩
        · exact .inl h3
        · exact .inr ⟨r, h4, by omega, h6⟩
def Tok (x : List DC) : Prop := ∃ (a : Int) (s : List UInt8) (b : Int), x = [.i a, .s s, .i b] ∧ s.length ≤ 9223372036854775807
theorem l21 (l : List (List DC)) (n : Int) (hl : (l.length : Int) ≤ 9223372036854775807) (h0 : 0 ≤ n) (h1 : n ≤ 1048576) (hx : ∀ x ∈ l, Tok x) :
    ∃ r, Evt (fun k => callF cfg k 21 h21 [.sl l, .i n]) (.ret [.i r]) ∧ (0 ≤ r → (l.length : Int) ≤ 1048576 ∧ r ≤ 1048576) := by
  have hw : IntKind.i64.wrap (n - (l.length : Int)) = n - (l.length : Int) := wrap64 (by omega) (by omega)
  by_cases hneg : n - (l.length : Int) < 0
  · refine ⟨-1, Evt.succ (Evt.of_eq fun k => ?_), fun h => by omega⟩
    rw [eq21]
    simp [E21, hw, hneg]
  · obtain ⟨o, h2, h3⟩ := l21L l hl l.length 0 (n - (l.length : Int)) (by omega) (by omega) (by omega) hx
    have e1 : ∀ k, callF cfg (k + 1) 21 h21 [.sl l, .i n] = Out.andThenB (loopF (E21L1 k) k [.sl l, .i (n - (l.length : Int)), .i ((0 : Nat) : Int)]) 0 fun v4 => .ret [DC.i ((v4.getD 0 d0).ii)] := by
      intro k
      rw [eq21]
      simp [E21, hw, hneg]
    rcases h3 with rfl | ⟨r, h4, h5, rfl⟩
    · exact ⟨-1, Evt.succ ((Evt.thenB_ret (G := fun _ v4 => .ret [DC.i ((v4.getD 0 d0).ii)]) (id := 0) h2.evt).congr e1), fun h => by omega⟩
    · exact ⟨r, Evt.succ ((Evt.thenB_ex (G := fun _ v4 => .ret [DC.i ((v4.getD 0 d0).ii)]) h2.evt (Evt.const _)).congr e1), fun _ => by omega⟩

theorem l23 (l : List (List DC)) (hl : (l.length : Int) ≤ 1048576) (hx : ∀ x ∈ l, Tok x) : Evt (fun k => callF cfg k 23 h23 [.sl l]) (.ret [.sl l]) := by
  let z : List DC := [DC.i 0, DC.s [], DC.i 0]
  let st : Nat → List DC := fun i => [.sl l, .sl (l.take i ++ List.replicate (l.length - i) z), .i (i : Int)]
  have hloop : Evt2 E23L1 (st 0) (.ex 0 [.sl l]) := by
    refine Evt2.upto (st := st) l.length 0 (fun i _ hi => ⟨1, fun k hk => ?_⟩) (Evt2.ex (Evt.of_eq fun k => ?_))
    · obtain ⟨k, rfl⟩ : ∃ j, k = j + 1 := ⟨k - 1, by omega⟩
      have hlt : i < l.length := by omega
      obtain ⟨a, s, b, he, hs⟩ := hx l[i] (List.getElem_mem hlt)
      have hg : l.getD i [] = [.i a, .s s, .i b] := by rw [List.getD_eq_getElem?_getD, List.getElem?_eq_getElem hlt, ← he]; rfl
      have hw2 : IntKind.i64.wrap ((i : Int) + 1) = ((i + 1 : Nat) : Int) := by rw [wrap64 (by omega) (by omega)]; simp
      have hc1 : (i : Int) < (l.length : Int) := by omega
      have hlen : (l.take i ++ List.replicate (l.length - i) z).length = l.length := by simp; omega
      have hgz : (l.take i ++ List.replicate (l.length - i) z).getD i [] = z := by
        rw [List.getD_eq_getElem?_getD, List.getElem?_append_right (by simp; omega), List.getElem?_replicate, if_pos (by simp; omega)]
        rfl
      have hset : (l.take i ++ List.replicate (l.length - i) z).set i [.i a, .s s, .i b] = l.take (i + 1) ++ List.replicate (l.length - (i + 1)) z := by
        rw [List.set_append_right _ _ (by simp; omega), List.take_add_one, List.getElem?_eq_getElem hlt, he]
        obtain ⟨m, hm⟩ : ∃ m, l.length - i = m + 1 := ⟨l.length - i - 1, by omega⟩
        have hm2 : l.length - (i + 1) = m := by omega
        have hm3 : i - (l.take i).length = 0 := by simp; omega
        rw [hm, hm2, hm3, List.replicate_succ]
        simp
      have hrun : setRunD z 0 [.i a, .s s, .i b] = [.i a, .s s, .i b] := rfl
      simp only [E23L1, st, List.getD_cons_zero, List.getD_cons_succ, DC.ii_i, DC.ll_sl, Int.toNat_natCast, hg, DC.ss_s, l19, Out.bindR_ret, hlen, hgz, hrun, hset]
      simp [hc1, hw2]
    · simp only [E23L1, st, List.getD_cons_zero, List.getD_cons_succ, DC.ii_i, DC.ll_sl]
      rw [if_neg (by simp)]
      simp
  refine Evt.succ ((Evt.thenB_ex (G := fun _ v4 => .ret [DC.sl ((v4.getD 0 d0).ll)]) hloop.evt (Evt.const _)).congr fun k => ?_)
  rw [eq23]
  have hL : (l.length : Int) < (LIM : Int) := by simp only [LIM]; omega
  simp [E23, hL, st, z]

/-- Two lists, element by element. -/
def ne1 (x y : List DC) : Bool := ((x.getD 0 d0).ii != (y.getD 0 d0).ii) || !((x.getD 1 d0).ss == (y.getD 1 d0).ss)
theorem l22L (l m : List (List DC)) (hl : (l.length : Int) ≤ 1048576) (hm : l.length = m.length) :
    ((∀ j, j < l.length → ne1 (l.getD j []) (m.getD j []) = false) → Evt2 E22L1 [.sl l, .sl m, .i 0] (.ex 0 [])) ∧ ((∃ i, i < l.length ∧ ne1 (l.getD i []) (m.getD i []) = true ∧ ∀ j, j < i → ne1 (l.getD j []) (m.getD j []) = false) → Evt2 E22L1 [.sl l, .sl m, .i 0] (.ret [.b false])) := by
  let st : Nat → List DC := fun i => [.sl l, .sl m, .i (i : Int)]
  have hstep : ∀ i, i < l.length → ne1 (l.getD i []) (m.getD i []) = false → Evt (fun k => E22L1 k (st i)) (.norm (st (i + 1))) := by
    intro i hi hp
    refine Evt.of_eq fun k => ?_
    have hw2 : IntKind.i64.wrap ((i : Int) + 1) = ((i + 1 : Nat) : Int) := by rw [wrap64 (by omega) (by omega)]; simp
    have hc1 : (i : Int) < (l.length : Int) := by omega
    have hc2 : (i : Int) < (m.length : Int) := by omega
    have hc3 : i < m.length := by omega
    unfold ne1 at hp
    rw [Bool.or_eq_false_iff] at hp
    simp only [E22L1, st, List.getD_cons_zero, List.getD_cons_succ, DC.ii_i, DC.ll_sl, Int.toNat_natCast, hp.1, hp.2]
    simp only [List.getD_eq_getElem?_getD] at hp ⊢
    simp [hc1, hc2, hi, hc3, hw2, hp.1, hp.2]
  refine ⟨fun h => ?_, fun ⟨i, hi, hp, hj⟩ => ?_⟩
  · refine Evt2.upto (st := st) l.length 0 (fun j _ hj => hstep j (by omega) (h j (by omega))) (Evt2.ex (Evt.of_eq fun k => ?_))
    simp only [E22L1, st, List.getD_cons_zero, List.getD_cons_succ, DC.ii_i, DC.ll_sl]
    rw [if_neg (by simp)]
  · refine Evt2.upto (st := st) i 0 (fun j _ hj' => hstep j (by omega) (hj j (by omega))) (Evt2.ret (Evt.of_eq fun k => ?_))
    have hc1 : (i : Int) < (l.length : Int) := by omega
    have hc2 : (i : Int) < (m.length : Int) := by omega
    have hc3 : i < m.length := by omega
    unfold ne1 at hp
    rw [Nat.zero_add]
    simp only [E22L1, st, List.getD_cons_zero, List.getD_cons_succ, DC.ii_i, DC.ll_sl, Int.toNat_natCast]
    rcases Bool.or_eq_true_iff.1 hp with hp | hp
    · simp only [hp]
      simp [hc1, hc2, hi, hc3]
    · simp only [hp]
      by_cases hq : ((l.getD i []).getD 0 d0).ii = ((m.getD i []).getD 0 d0).ii <;> simp only [List.getD_eq_getElem?_getD] at hq ⊢ <;> simp [hc1, hc2, hi, hc3, hq]

def sameB (l m : List (List DC)) : Bool := decide (l.length = m.length) && (List.range l.length).all fun j => !ne1 (l.getD j []) (m.getD j [])
theorem sameB_true {l m : List (List DC)} (hm : l.length = m.length) (h : ∀ j, j < l.length → ne1 (l.getD j []) (m.getD j []) = false) : sameB l m = true := by
  unfold sameB
  simp only [hm, decide_true, Bool.true_and, List.all_eq_true, List.mem_range, Bool.not_eq_true']
  exact fun j hj => h j (by omega)
theorem sameB_false {l m : List (List DC)} {i : Nat} (hi : i < l.length) (h : ne1 (l.getD i []) (m.getD i []) = true) : sameB l m = false := by
  unfold sameB
  rw [Bool.and_eq_false_iff]
  right
  rw [List.all_eq_false]
  exact ⟨i, by simpa using hi, by simp only [h]; decide⟩
theorem l22 (l m : List (List DC)) (hl : (l.length : Int) ≤ 1048576) : Evt (fun k => callF cfg k 22 h22 [.sl l, .sl m]) (.ret [.b (sameB l m)]) := by
  by_cases hm : l.length = m.length
  · have e1 : ∀ k, callF cfg (k + 1) 22 h22 [.sl l, .sl m] = Out.andThenB (loopF (E22L1 k) k [.sl l, .sl m, .i 0]) 0 fun v4 => .ret [DC.b true] := by
      intro k
      rw [eq22]
      simp [E22, hm]
    rcases first_not (p := fun j => !ne1 (l.getD j []) (m.getD j [])) l.length with h | ⟨i, h1, h2, h3⟩
    · have h' : ∀ j, j < l.length → ne1 (l.getD j []) (m.getD j []) = false := fun j hj => by simpa using h j hj
      rw [sameB_true hm h']
      exact Evt.succ ((Evt.thenB_ex (G := fun _ _ => .ret [DC.b true]) ((l22L l m hl hm).1 h').evt (Evt.const _)).congr e1)
    · have h2' : ne1 (l.getD i []) (m.getD i []) = true := by simpa using h2
      rw [sameB_false h1 h2']
      exact Evt.succ ((Evt.thenB_ret (G := fun _ _ => .ret [DC.b true]) (id := 0) ((l22L l m hl hm).2 ⟨i, h1, h2', fun j hj => by simpa using h3 j hj⟩).evt).congr e1)
  · have : sameB l m = false := by simp [sameB, hm]
    rw [this]
    refine Evt.succ (Evt.of_eq fun k => ?_)
    rw [eq22]
    simp [E22, hm]
    omega
theorem l32 (k : Nat) (a b : Int) (s t : List UInt8) (x y : Int) : callF cfg (k + 1) 32 h32 [.i a, .s s, .i x, .i b, .s t, .i y] = .ret [.b ((a == b) && (s == t))] := by
  rw [eq32]
  by_cases h : a = b <;> simp [E32, h]
theorem l31L (l m : List (List DC)) (hl : (l.length : Int) ≤ 1048576) (hm : l.length = m.length) :
    ((∀ j, j < l.length → ne1 (l.getD j []) (m.getD j []) = false) → Evt2 E31L1 [.sl m, .sl l, .i (l.length : Int), .i 0] (.ex 0 [])) ∧ ((∃ i, i < l.length ∧ ne1 (l.getD i []) (m.getD i []) = true ∧ ∀ j, j < i → ne1 (l.getD j []) (m.getD j []) = false) → Evt2 E31L1 [.sl m, .sl l, .i (l.length : Int), .i 0] (.ret [.b false])) := by
  let st : Nat → List DC := fun i => [.sl m, .sl l, .i (l.length : Int), .i (i : Int)]
  have key : ∀ x y : List DC, (((x.getD 0 d0).ii == (y.getD 0 d0).ii) && ((x.getD 1 d0).ss == (y.getD 1 d0).ss)) = !ne1 x y := by
    intro x y
    unfold ne1
    rw [Bool.not_or, Bool.not_not]
    congr 1
    simp [bne]
  have hstep : ∀ i, i < l.length → ne1 (l.getD i []) (m.getD i []) = false → Evt (fun k => E31L1 k (st i)) (.norm (st (i + 1))) := by
    intro i hi hp
    refine ⟨1, fun k hk => ?_⟩
    obtain ⟨k, rfl⟩ : ∃ j, k = j + 1 := ⟨k - 1, by omega⟩
    have hw2 : IntKind.i64.wrap ((i : Int) + 1) = ((i + 1 : Nat) : Int) := by rw [wrap64 (by omega) (by omega)]; simp
    have hc1 : (i : Int) < (l.length : Int) := by omega
    have hc2 : (i : Int) < (m.length : Int) := by omega
    simp only [E31L1, st, List.getD_cons_zero, List.getD_cons_succ, DC.ii_i, DC.ll_sl, Int.toNat_natCast, l32, Out.bindR_ret, DC.bb_b, key, hp]
    simp [hc1, hc2, hw2]
  refine ⟨fun h => ?_, fun ⟨i, hi, hp, hj⟩ => ?_⟩
  · refine Evt2.upto (st := st) l.length 0 (fun j _ hj => hstep j (by omega) (h j (by omega))) (Evt2.ex (Evt.of_eq fun k => ?_))
    simp only [E31L1, st, List.getD_cons_zero, List.getD_cons_succ, DC.ii_i, DC.ll_sl]
    rw [if_neg (by simp)]
  · refine Evt2.upto (st := st) i 0 (fun j _ hj' => hstep j (by omega) (hj j (by omega))) (Evt2.ret ⟨1, fun k hk => ?_⟩)
    obtain ⟨k, rfl⟩ : ∃ j, k = j + 1 := ⟨k - 1, by omega⟩
    have hc1 : (i : Int) < (l.length : Int) := by omega
    have hc2 : (i : Int) < (m.length : Int) := by omega
    rw [Nat.zero_add]
    simp only [E31L1, st, List.getD_cons_zero, List.getD_cons_succ, DC.ii_i, DC.ll_sl, Int.toNat_natCast, l32, Out.bindR_ret, DC.bb_b, key, hp]
    simp [hc1, hc2]
theorem l31 (l m : List (List DC)) (hl : (l.length : Int) ≤ 1048576) : Evt (fun k => callF cfg k 31 h31 [.sl l, .sl m]) (.ret [.b (sameB l m)]) := by
  by_cases hm : l.length = m.length
  · have e1 : ∀ k, callF cfg (k + 1) 31 h31 [.sl l, .sl m] = Out.andThenB (loopF (E31L1 k) k [.sl m, .sl l, .i (l.length : Int), .i 0]) 0 fun v4 => .ret [DC.b true] := by
      intro k
      rw [eq31]
      simp [E31, hm]
    rcases first_not (p := fun j => !ne1 (l.getD j []) (m.getD j [])) l.length with h | ⟨i, h1, h2, h3⟩
    · have h' : ∀ j, j < l.length → ne1 (l.getD j []) (m.getD j []) = false := fun j hj => by simpa using h j hj
      rw [sameB_true hm h']
      exact Evt.succ ((Evt.thenB_ex (G := fun _ _ => .ret [DC.b true]) ((l31L l m hl hm).1 h').evt (Evt.const _)).congr e1)
    · have h2' : ne1 (l.getD i []) (m.getD i []) = true := by simpa using h2
      rw [sameB_false h1 h2']
      exact Evt.succ ((Evt.thenB_ret (G := fun _ _ => .ret [DC.b true]) (id := 0) ((l31L l m hl hm).2 ⟨i, h1, h2', fun j hj => by simpa using h3 j hj⟩).evt).congr e1)
  · have : sameB l m = false := by simp [sameB, hm]
    rw [this]
    refine Evt.succ (Evt.of_eq fun k => ?_)
    rw [eq31]
    simp [E31, hm]
    omega
theorem l24 (l m : List (List DC)) (hl : (l.length : Int) ≤ 1048576) : Evt (fun k => callF cfg k 24 h24 [.sl l, .sl m]) (.ret [.b (sameB l m)]) := by
  refine Evt.succ ((Evt.bind (G := fun _ r1 => .ret [DC.b ((r1.getD 0 d0).bb)]) (l31 l m hl) (Evt.const _)).congr fun k => ?_)
  rw [eq24]
  simp [E24]
theorem l25 (l : List (List DC)) (hl : (l.length : Int) ≤ 1048576) : Evt (fun k => callF cfg k 25 h25 [.sl l, .sl l]) (.ret [.b true]) := by
  let st : Nat → List DC := fun i => [.sl l, .sl l, .i (i : Int)]
  have l33 : ∀ (k : Nat) (a : Int) (s : List UInt8) (b : Int), callF cfg (k + 1) 33 h33 [.i a, .s s, .i b, .i a, .s s, .i b] = .ret [.b true] := by
    intro k a s b
    rw [eq33]
    simp [E33]
  have hloop : Evt2 E25L1 (st 0) (.ex 0 []) := by
    refine Evt2.upto (st := st) l.length 0 (fun i _ hi => ⟨1, fun k hk => ?_⟩) (Evt2.ex (Evt.of_eq fun k => ?_))
    · obtain ⟨k, rfl⟩ : ∃ j, k = j + 1 := ⟨k - 1, by omega⟩
      have hw2 : IntKind.i64.wrap ((i : Int) + 1) = ((i + 1 : Nat) : Int) := by rw [wrap64 (by omega) (by omega)]; simp
      have hc1 : (i : Int) < (l.length : Int) := by omega
      simp only [E25L1, st, List.getD_cons_zero, List.getD_cons_succ, DC.ii_i, DC.ll_sl, Int.toNat_natCast, l33, Out.bindR_ret, DC.bb_b]
      simp [hc1, hw2]
    · simp only [E25L1, st, List.getD_cons_zero, List.getD_cons_succ, DC.ii_i, DC.ll_sl]
      rw [if_neg (by simp)]
  refine Evt.succ ((Evt.thenB_ex (G := fun _ _ => .ret [DC.b true]) hloop.evt (Evt.const _)).congr fun k => ?_)
  rw [eq25]
  simp [E25, st]
theorem wf_tok {l : List (List DC)} (h : WfV cfg.ty [.i .i64, .s, .i .i64] l) : ∀ x ∈ l, Tok x := by
  induction l with
  | nil => intro x hx; simp at hx
  | cons y l ih =>
    cases h with
    | cons ts x l h1 h2 =>
      intro x hx
      rcases List.mem_cons.1 hx with rfl | hx
      · cases h1 with
        | cons t ts a xs q1 q2 =>
          cases q1
          cases q2 with
          | cons t ts b xs q3 q4 =>
            cases q3 with
            | s s hs =>
              cases q4 with
              | cons t ts c xs q5 q6 =>
                cases q5
                cases q6
                exact ⟨_, s, _, rfl, by simpa [maxLen] using hs⟩
      · exact ih h2 x hx
theorem law8 (d : List DC) (hd : WfL cfg.ty [.sl 26, .sl 26] d) : Evt (fun k => callF cfg k 8 h8 d) (.ret [.b true]) := by
  have one : ∀ x : DC, WfC cfg.ty (.sl 26) x → ∃ l, x = .sl l ∧ (l.length : Int) ≤ 9223372036854775807 ∧ ∀ y ∈ l, Tok y := by
    intro x h
    cases h with
    | sl e te l hte hl hv =>
      have : te = ⟨.struct, [.i .i64, .s, .i .i64], 32, [(0, 1, false), (1, 1, false), (2, 1, false)], false⟩ := by
        have h2 : cfg.ty 26 = some ⟨.struct, [.i .i64, .s, .i .i64], 32, [(0, 1, false), (1, 1, false), (2, 1, false)], false⟩ := by rfl
        rw [h2] at hte
        exact (Option.some.inj hte).symm
      subst this
      exact ⟨l, rfl, by simp only [maxLen] at hl; omega, wf_tok hv⟩
    | nil => exact ⟨[], rfl, by simp, fun y hy => by simp at hy⟩
  cases hd with
  | cons t ts x xs q1 q2 =>
    cases q2 with
    | cons t ts y ys q3 q4 =>
      cases q4
      obtain ⟨l, rfl, hl, hlt⟩ := one x q1
      obtain ⟨m, rfl, hm, hmt⟩ := one y q3
      refine Evt.succ (Evt.congr (g := fun k => E8 k [.sl l, .sl m]) ?_ fun k => eq8 k _)
      simp only [E8, List.getD_cons_zero, List.getD_cons_succ, DC.ll_sl]
      obtain ⟨r1, h1, b1⟩ := l21 l 1048576 hl (by omega) (by omega) hlt
      refine Evt.bind h1 ?_
      simp only [List.getD_cons_zero, DC.ii_i]
      by_cases n1 : r1 < 0
      · simp only [n1, decide_true, if_true]
        exact Evt.const _
      · simp only [n1, decide_false, Bool.false_eq_true, if_false]
        obtain ⟨bl, br⟩ := b1 (by omega)
        obtain ⟨r2, h2, b2⟩ := l21 m r1 hm (by omega) br hmt
        refine Evt.bind h2 ?_
        simp only [List.getD_cons_zero, DC.ii_i]
        by_cases n2 : r2 < 0
        · simp only [n2, decide_true, if_true]
          exact Evt.const _
        · simp only [n2, decide_false, Bool.false_eq_true, if_false]
          obtain ⟨bm, _⟩ := b2 (by omega)
          have tl := l23 l bl hlt
          have tm := l23 m bm hmt
          refine Evt.bind tl ?_
          refine Evt.bind tm ?_
          simp only [List.getD_cons_zero, DC.ll_sl]
          refine Evt.bind (l22 l m bl) ?_
          refine Evt.bind tl ?_
          refine Evt.bind tm ?_
          simp only [List.getD_cons_zero, DC.ll_sl]
          refine Evt.bind (l24 l m bl) ?_
          simp only [List.getD_cons_zero, DC.bb_b, beq_self_eq_true, Bool.not_true, Bool.false_eq_true, if_false]
          refine Evt.bind tl ?_
          simp only [List.getD_cons_zero, DC.ll_sl]
          refine Evt.bind (l25 l bl) ?_
          simp only [List.getD_cons_zero, DC.bb_b, Bool.not_true, Bool.false_eq_true, if_false]
          refine Evt.bind tm ?_
          simp only [List.getD_cons_zero, DC.ll_sl]
          refine Evt.bind (l25 m bm) ?_
          simp only [List.getD_cons_zero, DC.bb_b, Bool.not_true, Bool.false_eq_true, if_false]
          exact Evt.const _
end Go.Proofs.YtdobbcpmpgpkcaaV
