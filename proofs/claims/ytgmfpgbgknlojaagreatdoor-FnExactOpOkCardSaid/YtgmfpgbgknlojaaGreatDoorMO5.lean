import Derived.Test.YtgmfpgbgknlojaaGreatDoorMO4
import Derived.WalkKit
import Derived.ProofKit
import Derived.OpenShut
import Derived.ShutString
import Derived.ChangeOld
import Derived.SizedLaws
import Derived.Shelf.Strings.IndexAny
import Derived.Laws.RangeAny
import Derived.Laws.Runes
import Derived.Below
import Derived.Shelf.RegionOpenPlain
import Derived.Shelf.Strings.IndexAnyAll
import Derived.Lib.QuoteLoop
import Derived.Lib.RuneCountTail
import Derived.WalkMore
import Derived.Shelf.Small.Utf8
import Derived.Test.YtgmfpgbgknlojaaGreatDoorProg
import Derived.Shelf.Lays
import Derived.Shelf.Unicode.ValidAny
import Derived.Lib.LaidU8T
import Derived.Shelf.Strings.Cut
import Derived.Shelf.Strings.Search3
import Derived.Shelf.Strings.SlTrimAscii
import Derived.Shelf.Small.Strs
/- The input reads as it did. -/
namespace Go.Proofs.YtgmfpgbgknlojaaGreatDoorV
open Go

theorem args_stay {H : Type} {enc : TypeId × Value → H} {P : Program} (hl : laidOutB P = true) {W W' : World} (hb : RowKit.Below W.heap.size W W') : ∀ {ts : List TypeId} {vs : List Value} {ds : List (DataW H)} {ps : List MemPlace},
    (ts.all fun t => P.readableRec t && Nat.blt t P.types.size) = true → DataW.TrodAll enc P W 0 (fun _ => true) true ts vs ds ps → DataW.TrodAll enc P W' 0 (fun b => decide (b < W.heap.size)) true ts vs ds ps
  | [], [], [], ps, _, h => h
  | t :: ts, v :: vs, d :: ds, ps, ht, ⟨p, q, h1, h2, h3⟩ => by
    simp only [List.all_cons, Bool.and_eq_true] at ht
    obtain ⟨⟨k1, k2⟩, k3⟩ := ht
    refine ⟨p, q, RowKit.Below.trod hl k1 (by simpa [Nat.blt_eq] using k2) h1 hb ?_, args_stay hl hb k3 h2, h3⟩
    obtain ⟨m, hm⟩ := h1
    exact DataW.trod_lt m _ _ _ hm
  | [], _ :: _, _, _, _, h => h.elim
  | [], [], _ :: _, _, _, h => h.elim
  | _ :: _, [], _, _, _, h => h.elim
  | _ :: _, _ :: _, [], _, _, h => h.elim

end Go.Proofs.YtgmfpgbgknlojaaGreatDoorV

/- Loops over an index, for all great fuels. -/
namespace Go.Proofs.YtgmfpgbgknlojaaGreatDoorV
open Go

theorem wrap64 {n : Int} (h1 : -9223372036854775808 ≤ n) (h2 : n ≤ 9223372036854775807) : IntKind.i64.wrap n = n := by
  rw [IntKind.wrap_i64]
  omega

/-- Rounds i, i + 1, .., up to n, then what follows. -/
theorem Evt2.upto {F : Nat → List DC → Out} {st : Nat → List DC} {o : Out} : ∀ (m i : Nat), (∀ j, i ≤ j → j < i + m → Evt (fun k => F k (st j)) (.norm (st (j + 1)))) → Evt2 F (st (i + m)) o → Evt2 F (st i) o
  | 0, i, _, h2 => by simpa using h2
  | m + 1, i, h1, h2 => by
    refine Evt2.step (h1 i (Nat.le_refl _) (by omega)) (Evt2.upto m (i + 1) (fun j hj hj' => h1 j (by omega) (by omega)) ?_)
    rw [show i + 1 + m = i + (m + 1) by omega]
    exact h2

/-- The first round at which something fails, if any. -/
theorem first_not {p : Nat → Bool} : ∀ (n : Nat), (∀ j, j < n → p j = true) ∨ ∃ i, i < n ∧ p i = false ∧ ∀ j, j < i → p j = true
  | 0 => .inl fun j h => by omega
  | n + 1 => by
    rcases first_not (p := p) n with h | ⟨i, h1, h2, h3⟩
    · by_cases hp : p n = true
      · refine .inl fun j hj => ?_
        rcases Nat.lt_or_ge j n with h' | h'
        · exact h j h'
        · have : j = n := by omega
          rw [this]
          exact hp
      · exact .inr ⟨n, by omega, by simpa using hp, h⟩
    · exact .inr ⟨i, by omega, h2, h3⟩

end Go.Proofs.YtgmfpgbgknlojaaGreatDoorV

/- Loops over an index, without fuel; the helpers of the laws. -/
namespace Go.Proofs.YtgmfpgbgknlojaaGreatDoorV
open Go
set_option linter.unusedVariables false
set_option linter.unusedSimpArgs false

/-- An answer that leaves the loop. -/
def Out.esc (o : Out) : Prop := ∀ K, o.andThen K = o
theorem Out.esc_ret (v : List DC) : (Out.ret v).esc := fun _ => rfl
theorem Out.esc_ex (id : Nat) (v : List DC) : (Out.ex id v).esc := fun _ => rfl
theorem Out.esc_fail : Out.fail.esc := fun _ => rfl

theorem Loop_norm {F : List DC → Out} {v v' : List DC} (h : F v = .norm v') : Loop F v = Loop F v' := by rw [Loop_eq, h]; rfl
theorem Loop_ret {F : List DC → Out} {v r : List DC} (h : F v = .ret r) : Loop F v = .ret r := by rw [Loop_eq, h]; rfl
theorem Loop_ex {F : List DC → Out} {v r : List DC} {id : Nat} (h : F v = .ex id r) : Loop F v = .ex id r := by rw [Loop_eq, h]; rfl
theorem Loop_esc {F : List DC → Out} {v : List DC} {o : Out} (h : F v = o) (he : o.esc) : Loop F v = o := by rw [Loop_eq, h, he]

theorem Loop_upto {F : List DC → Out} {st : Nat → List DC} {o : Out} : ∀ (m i : Nat), (∀ j, i ≤ j → j < i + m → F (st j) = .norm (st (j + 1))) → Loop F (st (i + m)) = o → Loop F (st i) = o
  | 0, i, _, h2 => by simpa using h2
  | m + 1, i, h1, h2 => by
    rw [Loop_norm (h1 i (Nat.le_refl _) (by omega))]
    refine Loop_upto m (i + 1) (fun j hj hj' => h1 j (by omega) (by omega)) ?_
    rw [show i + 1 + m = i + (m + 1) by omega]
    exact h2

/-- What a loop over a list makes of a state: it goes on, or leaves. -/
def goE {α σ : Type} (f : Nat → σ → α → Sum σ Out) (fin : σ → Out) : Nat → σ → List α → Out
  | _, s, [] => fin s
  | i, s, x :: xs =>
    match f i s x with
    | .inl s' => goE f fin (i + 1) s' xs
    | .inr o => o

theorem Loop_fold {α σ : Type} {l : List α} {st : Nat → σ → List DC} {f : Nat → σ → α → Sum σ Out} {fin : σ → Out} {F : List DC → Out} (I : Nat → σ → Prop)
    (hF : ∀ (i : Nat) (s : σ) (hi : i < l.length), I i s → (∃ s', f i s l[i] = .inl s' ∧ I (i + 1) s' ∧ F (st i s) = .norm (st (i + 1) s')) ∨ ∃ o, f i s l[i] = .inr o ∧ o.esc ∧ F (st i s) = o)
    (hend : ∀ s, I l.length s → F (st l.length s) = fin s ∧ (fin s).esc) : ∀ (m i : Nat) (s : σ), i + m = l.length → I i s → Loop F (st i s) = goE f fin i s (l.drop i)
  | 0, i, s, hi, hI => by
    have : i = l.length := by omega
    subst this
    rw [List.drop_length, goE]
    exact Loop_esc (hend s hI).1 (hend s hI).2
  | m + 1, i, s, hi, hI => by
    have hlt : i < l.length := by omega
    rw [List.drop_eq_getElem_cons hlt, goE]
    rcases hF i s hlt hI with ⟨s', h1, h2, h3⟩ | ⟨o, h1, h2, h3⟩
    · rw [h1, Loop_norm h3]
      exact Loop_fold I hF hend m (i + 1) s' (by omega) h2
    · rw [h1]
      exact Loop_esc h3 h2

/-- The first element that is so, if any: the loop's answer. -/
def goF {α : Type} (p : α → Bool) (stop : Nat → α → Out) (fin : Out) : Nat → List α → Out
  | _, [] => fin
  | i, x :: xs => if p x = true then stop i x else goF p stop fin (i + 1) xs

theorem Loop_find {α : Type} {l : List α} {st : Nat → List DC} {p : α → Bool} {stop : Nat → α → Out} {fin : Out} {F : List DC → Out}
    (hF : ∀ (i : Nat) (hi : i < l.length), F (st i) = if p l[i] = true then stop i l[i] else .norm (st (i + 1)))
    (hs : ∀ i x, (stop i x).esc) (hend : F (st l.length) = fin) (hfin : fin.esc) : ∀ (m i : Nat), i + m = l.length → Loop F (st i) = goF p stop fin i (l.drop i)
  | 0, i, hi => by
    have : i = l.length := by omega
    subst this
    rw [List.drop_length, goF]
    exact Loop_esc hend hfin
  | m + 1, i, hi => by
    have hlt : i < l.length := by omega
    rw [List.drop_eq_getElem_cons hlt, goF]
    by_cases hp : p l[i] = true
    · rw [if_pos hp]
      exact Loop_esc (by rw [hF i hlt, if_pos hp]) (hs _ _)
    · rw [if_neg hp, Loop_norm (by rw [hF i hlt, if_neg hp])]
      exact Loop_find hF hs hend hfin m (i + 1) (by omega)

theorem Loop_find0 {α : Type} {l : List α} {st : Nat → List DC} {p : α → Bool} {stop : Nat → α → Out} {fin : Out} {F : List DC → Out}
    (hF : ∀ (i : Nat) (hi : i < l.length), F (st i) = if p l[i] = true then stop i l[i] else .norm (st (i + 1)))
    (hs : ∀ i x, (stop i x).esc) (hend : F (st l.length) = fin) (hfin : fin.esc) : Loop F (st 0) = goF p stop fin 0 l := by
  have := Loop_find hF hs hend hfin l.length 0 (by omega)
  rwa [List.drop_zero] at this

theorem goF_idx {α : Type} {p : α → Bool} {stop : Nat → α → Out} {fin : Out} : ∀ (l : List α) (i : Nat), goF p stop fin i l = match l.findIdx? p with | some j => (match l[j]? with | some x => stop (i + j) x | none => .fail) | none => fin
  | [], i => rfl
  | x :: l, i => by
    rw [goF, List.findIdx?_cons]
    by_cases hp : p x = true
    · simp [hp]
    · simp only [hp, Bool.false_eq_true, if_false]
      rw [goF_idx l (i + 1)]
      cases h : l.findIdx? p with
      | none => simp
      | some j => simp [Nat.add_assoc, Nat.add_comm 1 j]

theorem goF_any {α : Type} {p : α → Bool} {a : Out} {fin : Out} : ∀ (l : List α) (i : Nat), goF p (fun _ _ => a) fin i l = if l.any p = true then a else fin
  | [], i => rfl
  | x :: l, i => by
    rw [goF, goF_any l (i + 1), List.any_cons]
    cases p x <;> simp

theorem wrap_succ {i n : Nat} (h : i < n) (hn : n ≤ 9223372036854775807) : IntKind.i64.wrap ((i : Int) + 1) = ((i + 1 : Nat) : Int) := by
  rw [wrap64 (by omega) (by omega)]
  simp

theorem map_getD {α : Type} {f : α → List DC} {l : List α} {i : Nat} (h : i < l.length) : (l.map f).getD i [] = f l[i] := by
  rw [List.getD_eq_getElem?_getD, List.getElem?_map, List.getElem?_eq_getElem h]
  rfl

/-! ### The helpers -/

def szR (left : Int) (w : Nat) : Int := if left < (w : Int) then -1 else left - w
theorem szR_lt {left : Int} {w : Nat} (h : left < (w : Int)) : szR left w = -1 := if_pos h
theorem szR_ge {left : Int} {w : Nat} (h : ¬ left < (w : Int)) : szR left w = left - w := if_neg h

theorem szS_loop {α : Type} {enc : α → List DC} {vs : List α} {F : List DC → Out}
    (hF : ∀ (i : Nat) (hi : i < vs.length) (left : Int), 0 ≤ left → left ≤ 1048576 → F [.sl (vs.map enc), .i left, .i (i : Int)] = if left < (wtL (enc vs[i]) : Int) then .ret [.i (-1)] else .norm [.sl (vs.map enc), .i (left - wtL (enc vs[i])), .i ((i + 1 : Nat) : Int)])
    (hend : ∀ left, F [.sl (vs.map enc), .i left, .i (vs.length : Int)] = .ex 0 [.i left]) :
    ∀ (m i : Nat) (left : Int), i + m = vs.length → 0 ≤ left → left ≤ 1048576 → Loop F [.sl (vs.map enc), .i left, .i (i : Int)] = if left < (wtV ((vs.drop i).map enc) : Int) then .ret [.i (-1)] else .ex 0 [.i (left - wtV ((vs.drop i).map enc))]
  | 0, i, left, hi, h0, h1 => by
    have : i = vs.length := by omega
    subst this
    rw [List.drop_length, Loop_ex (hend left)]
    simp only [List.map_nil, wtV]
    rw [if_neg (by omega)]
    simp
  | m + 1, i, left, hi, h0, h1 => by
    have hlt : i < vs.length := by omega
    have hw : wtV ((vs.drop i).map enc) = wtL (enc vs[i]) + wtV ((vs.drop (i + 1)).map enc) := by
      rw [List.drop_eq_getElem_cons hlt, List.map_cons, wtV]
    by_cases hc : left < (wtL (enc vs[i]) : Int)
    · rw [Loop_ret (by rw [hF i hlt left h0 h1, if_pos hc]), if_pos (by omega)]
    · rw [Loop_norm (by rw [hF i hlt left h0 h1, if_neg hc]), szS_loop hF hend m (i + 1) _ (by omega) (by omega) (by omega), hw]
      by_cases h2 : left - (wtL (enc vs[i]) : Int) < (wtV ((vs.drop (i + 1)).map enc) : Int)
      · rw [if_pos h2, if_pos (by omega)]
      · rw [if_neg h2, if_neg (by omega)]
        congr 3
        omega

/-- The whole of a 'how great' of a slice. -/
theorem szS_all {α : Type} {enc : α → List DC} {vs : List α} {F : List DC → Out} (hl : vs.length ≤ 9223372036854775807)
    (hF : ∀ (i : Nat) (hi : i < vs.length) (left : Int), 0 ≤ left → left ≤ 1048576 → F [.sl (vs.map enc), .i left, .i (i : Int)] = if left < (wtL (enc vs[i]) : Int) then .ret [.i (-1)] else .norm [.sl (vs.map enc), .i (left - wtL (enc vs[i])), .i ((i + 1 : Nat) : Int)])
    (hend : ∀ left, F [.sl (vs.map enc), .i left, .i (vs.length : Int)] = .ex 0 [.i left]) {left : Int} (h0 : 0 ≤ left) (h1 : left ≤ 1048576) :
    (if (decide ((IntKind.i64.wrap (left - (((vs.map enc).length : Nat) : Int))) < (0 : Int))) = true then Out.ret [DC.i (-1 : Int)]
    else Out.andThenB (Loop F [DC.sl (vs.map enc), DC.i (IntKind.i64.wrap (left - (((vs.map enc).length : Nat) : Int))), DC.i (0 : Int)]) 0 fun v4 => .ret [DC.i ((v4.getD 0 d0).ii)]) = .ret [.i (szR left (DC.wt (.sl (vs.map enc))))] := by
  rw [DC.wt, List.length_map, wrap64 (by omega) (by omega)]
  by_cases hc : left - (vs.length : Int) < 0
  · simp only [hc, decide_true, if_true]
    rw [szR_lt (by omega)]
  · simp only [hc, decide_false, Bool.false_eq_true, if_false]
    have := szS_loop hF hend vs.length 0 (left - vs.length) (by omega) (by omega) (by omega)
    rw [List.drop_zero] at this
    rw [show (0 : Int) = ((0 : Nat) : Int) from rfl, this]
    by_cases h2 : left - (vs.length : Int) < (wtV (vs.map enc) : Int)
    · rw [if_pos h2, szR_lt (by omega)]
      rfl
    · rw [if_neg h2, szR_ge (by omega)]
      simp only [Out.andThenB_ex, if_true, List.getD_cons_zero, DC.ii_i]
      congr 3
      omega

theorem toS_loop {α : Type} {enc : α → List DC} {vs : List α} {z : List DC} {F : List DC → Out} (hl : vs.length ≤ 1048576)
    (hF : ∀ (i : Nat) (hi : i < vs.length) (cur : List (List DC)), cur.length = vs.length → cur.getD i [] = z → F [.sl (vs.map enc), .sl cur, .i (i : Int)] = .norm [.sl (vs.map enc), .sl (cur.set i (enc vs[i])), .i ((i + 1 : Nat) : Int)])
    (hend : ∀ cur, F [.sl (vs.map enc), .sl cur, .i (vs.length : Int)] = .ex 0 [.sl cur]) :
    Loop F [.sl (vs.map enc), .sl (List.replicate vs.length z), .i ((0 : Nat) : Int)] = .ex 0 [.sl (vs.map enc)] := by
  have hloop : Loop F [.sl (vs.map enc), .sl (List.replicate vs.length z), .i ((0 : Nat) : Int)] = .ex 0 [.sl (vs.map enc)] := by
    have h := Loop_upto (F := F) (st := fun i => [.sl (vs.map enc), .sl ((vs.map enc).take i ++ List.replicate (vs.length - i) z), .i (i : Int)]) (o := .ex 0 [.sl (vs.map enc)]) vs.length 0 (fun i _ hi => by
      have hlt : i < vs.length := by omega
      have hlen : ((vs.map enc).take i ++ List.replicate (vs.length - i) z).length = vs.length := by simp; omega
      have hgz : ((vs.map enc).take i ++ List.replicate (vs.length - i) z).getD i [] = z := by
        rw [List.getD_eq_getElem?_getD, List.getElem?_append_right (by simp; omega), List.getElem?_replicate, if_pos (by simp; omega)]
        rfl
      have := hF i hlt _ hlen hgz
      have hset : ((vs.map enc).take i ++ List.replicate (vs.length - i) z).set i (enc vs[i]) = (vs.map enc).take (i + 1) ++ List.replicate (vs.length - (i + 1)) z := by
        have ht : (vs.map enc).take (i + 1) = (vs.map enc).take i ++ [enc vs[i]] := by rw [List.take_add_one, List.getElem?_map, List.getElem?_eq_getElem hlt]; rfl
        rw [List.set_append_right _ _ (by simp; omega), ht]
        obtain ⟨m, hm⟩ : ∃ m, vs.length - i = m + 1 := ⟨vs.length - i - 1, by omega⟩
        have hm2 : vs.length - (i + 1) = m := by omega
        have hm3 : i - ((vs.map enc).take i).length = 0 := by simp; omega
        rw [hm, hm2, hm3, List.replicate_succ]
        simp only [List.set_cons_zero, List.append_assoc, List.singleton_append]
      rw [hset] at this
      exact this) (by
        have := hend (vs.map enc)
        refine Loop_ex ?_
        have ht : (vs.map enc).take (0 + vs.length) = vs.map enc := List.take_of_length_le (by simp)
        rw [ht]
        simpa using this)
    simpa using h
  exact hloop

theorem lim_of {n : Nat} (h : n ≤ 1048576) : (n : Int) < (LIM : Int) := by simp only [LIM]; omega

theorem eqS_all {l : List (List DC)} {F : List DC → Out} (hF : ∀ (i : Nat), i < l.length → F [.sl l, .sl l, .i (i : Int)] = .norm [.sl l, .sl l, .i ((i + 1 : Nat) : Int)]) (hend : F [.sl l, .sl l, .i (l.length : Int)] = .ex 0 []) :
    (if ((l.length : Int) != (l.length : Int)) = true then Out.ret [DC.b false]
    else Out.andThenB (Loop F [DC.sl l, DC.sl l, DC.i (0 : Int)]) 0 fun v4 => .ret [DC.b true]) = .ret [.b true] := by
  have hloop : Loop F [.sl l, .sl l, .i ((0 : Nat) : Int)] = .ex 0 [] :=
    Loop_upto (st := fun i => [.sl l, .sl l, .i (i : Int)]) l.length 0 (fun j _ hj => hF j (by omega)) (by rw [Nat.zero_add]; exact Loop_ex hend)
  rw [show (0 : Int) = ((0 : Nat) : Int) from rfl, hloop]
  simp

theorem setRunD_all {z xs : List DC} (h : z.length = xs.length) : setRunD z 0 xs = xs := by
  simp [setRunD, ← h]

end Go.Proofs.YtgmfpgbgknlojaaGreatDoorV

/- Functions that are met by a contract: their arguments and results are bools, numbers and strings. -/
namespace Go.Proofs.YtgmfpgbgknlojaaGreatDoorV
open Go
set_option linter.unusedVariables false
set_option linter.unusedSimpArgs false

def k1Is : CT → KC → Bool
  | .b, .one .b => true
  | .i k, .one (.i k') => decide (k = k')
  | .s, .one .s => true
  | _, _ => false
def tmIs : List CT → List KC → Bool
  | [], [] => true
  | c :: cs, k :: ks => k1Is c k && tmIs cs ks
  | _, _ => false
def hintLit (cts : List CT) (h : Hint) : Bool := tmIs cts h.tm && (match h.ob with | [] => true | _ => false)

theorem tmIs_eq : ∀ {cts : List CT} {ks : List KC}, tmIs cts ks = true → ks = cts.map fun c => .one c.k1
  | [], [], _ => rfl
  | c :: cs, k :: ks, h => by
    simp only [tmIs, Bool.and_eq_true] at h
    rw [List.map_cons, ← tmIs_eq h.2]
    congr 1
    have h1 := h.1
    unfold k1Is at h1
    split at h1
    · rfl
    · simp only [decide_eq_true_eq] at h1; rw [h1]; rfl
    · rfl
    · simp at h1
  | [], _ :: _, h => by simp [tmIs] at h
  | _ :: _, [], h => by simp [tmIs] at h
theorem tmIs_flat : ∀ {cts : List CT} {ks : List KC}, tmIs cts ks = true → cts.all CT.flat = true
  | [], _, _ => rfl
  | c :: cs, k :: ks, h => by
    simp only [tmIs, Bool.and_eq_true] at h
    rw [List.all_cons, tmIs_flat h.2, Bool.and_true]
    have h1 := h.1
    cases c <;> simp_all [k1Is, CT.flat]
  | _ :: _, [], h => by simp [tmIs] at h

def litC : CT → DC → Value
  | .b, d => .bool d.bb
  | .i k, d => .int k d.ii
  | .s, d => .string ⟨d.ss.toArray⟩
  | .sl _, _ => undef
def lits : List CT → List DC → Nat → List Value
  | [], _, _ => []
  | c :: cs, v, n => litC c (v.getD n d0) :: lits cs v (n + 1)
theorem lits_len : ∀ (cts : List CT) (v : List DC) (n : Nat), (lits cts v n).length = cts.length
  | [], _, _ => rfl
  | c :: cs, v, n => by rw [lits, List.length_cons, lits_len cs v (n + 1), List.length_cons]

theorem mkT_lit (v : List DC) : ∀ (cts : List CT) (n i : Nat) (c : CT), cts.all CT.flat = true → cts[i]? = some c → (mkT v n (cts.map fun c => KC.one c.k1))[i]? = some (.one (c.k1.mk v (n + i)))
  | [], n, i, c, _, h => by simp at h
  | a :: cts, n, 0, c, hf, h => by
    simp only [List.getElem?_cons_zero, Option.some.injEq] at h
    subst h
    rfl
  | a :: cts, n, i + 1, c, hf, h => by
    simp only [List.all_cons, Bool.and_eq_true] at hf
    simp only [List.getElem?_cons_succ] at h
    have hc : a.k1.cnt = 1 := by cases a <;> rfl
    rw [List.map_cons, mkT, List.getElem?_cons_succ, hc, mkT_lit v cts (n + 1) i c hf.2 h]
    congr 3
    omega
theorem mkT_len (v : List DC) : ∀ (ks : List KC) (n : Nat), (mkT v n ks).length = ks.length
  | [], _ => rfl
  | .one k :: ks, n => by rw [mkT, List.length_cons, mkT_len v ks, List.length_cons]
  | .agg l :: ks, n => by rw [mkT, List.length_cons, mkT_len v ks, List.length_cons]

theorem lits_get (v : List DC) : ∀ (cts : List CT) (n i : Nat) (c : CT), cts[i]? = some c → (lits cts v n)[i]? = some (litC c (v.getD (n + i) d0))
  | [], n, i, c, h => by simp at h
  | a :: cts, n, 0, c, h => by
    simp only [List.getElem?_cons_zero, Option.some.injEq] at h
    subst h
    rfl
  | a :: cts, n, i + 1, c, h => by
    simp only [List.getElem?_cons_succ] at h
    rw [lits, List.getElem?_cons_succ, lits_get v cts (n + 1) i c h]
    congr 3
    omega

section
variable {P : Program} {ty : Nat → Option TI}

theorem lit_args {A : An} {g : Gh} {fi : FI} {cts : List CT} {v : List DC} {vals : Array Value} {w : World} (hf : cts.all CT.flat = true)
    (hr : Rel ty A g (startSt fi ⟨cts.map fun c => .one c.k1, []⟩ v) { tmps := vals ++ Array.replicate (fi.ntmps - vals.size) undef, defers := [] } w) (hs : vals.size = cts.length) : vals = (lits cts v 0).toArray := by
  apply Array.toList_inj.1
  apply List.ext_getElem?
  intro i
  by_cases hi : i < cts.length
  · have hc : cts[i]? = some cts[i] := List.getElem?_eq_getElem hi
    have h1 := mkT_lit v cts 0 i _ hf hc
    have h2 : (startSt fi ⟨cts.map fun c => .one c.k1, []⟩ v).tm[i]? = some (.one (cts[i].k1.mk v (0 + i))) := by
      unfold startSt mkSt
      dsimp only
      rw [List.getElem?_append_left (by rw [mkT_len]; simpa using hi)]
      exact h1
    have hv : vals.toList[i]? = some (vals[i]'(by omega)) := by
      rw [Array.getElem?_toList, Array.getElem?_eq_getElem (by omega)]
    have h3 := hr.tm i _ (vals[i]'(by omega)) h2 (by
      dsimp only
      rw [Array.getElem?_append_left (by omega), Array.getElem?_eq_getElem (by omega)])
    have hfl : CT.flat cts[i] = true := List.all_eq_true.1 hf _ (List.getElem_mem hi)
    have hl := lits_get v cts 0 i _ hc
    simp only [List.toList_toArray] at hl ⊢
    rw [hv, hl]
    congr 1
    generalize cts[i] = c at h3 hfl ⊢
    cases c with
    | sl e => simp [CT.flat] at hfl
    | b => exact h3
    | i k => exact h3
    | s => exact h3
  · rw [List.getElem?_eq_none (by simp; omega), List.getElem?_eq_none (by simp [lits_len]; omega)]

theorem rkAll_ct (rcts : List CT) (i : Nat) : rkAll i (rcts.map fun c => (false, [RK.ct c])) = rcts.map CT.k1 := by
  unfold rkAll
  induction rcts with
  | nil => rfl
  | cons c cs ih =>
    rw [List.map_cons, List.flatMap_cons, List.map_cons]
    show rkK i (RK.ct c :: (cs.map fun c => (false, [RK.ct c])).flatMap Prod.snd) = _
    rw [rkK]
    show c.k1 :: rkK i _ = _
    rw [ih]

/-- Is the datum of the cell's kind? -/
def okD : CT → DC → Bool
  | .b, .b _ => true
  | .i _, .i _ => true
  | .s, .s _ => true
  | _, _ => false
def okDs : List CT → List DC → Nat → Bool
  | [], _, _ => true
  | c :: cs, r, n => okD c (r.getD n d0) && okDs cs r (n + 1)

/-- What a call of that kind returns. -/
theorem lit_res {A : An} {rcts : List CT} {r : List DC} {w' : World} (hf : okDs rcts r 0 = true) (hA : A.m = 0) (hk : Keep A w') : Res ty A [] (rcts.map fun c => (false, [RK.ct c])) r (lits rcts r 0) w' := by
  refine ⟨⟨⟨fun _ => False, fun _ => 0, fun _ => undef⟩, [], [], lits rcts r 0, [], ?_, rfl, ?_, ?_, fun b h => h.elim, fun j hj => by omega, fun j hj => by omega⟩, hk⟩
  · have : ∀ (cs : List CT) (n : Nat), RVs (cs.map fun c => (false, [RK.ct c])) (lits cs r n) (lits cs r n) := by
      intro cs
      induction cs with
      | nil => intro n; rfl
      | cons c cs ih => intro n; exact ⟨[litC c (r.getD n d0)], lits cs r (n + 1), rfl, rfl, fun h => absurd h (by simp), fun _ => rfl, ih (n + 1)⟩
    exact this rcts 0
  · rw [rkAll_ct, List.flatMap_nil, List.append_nil, List.append_nil]
    have : ∀ (cs : List CT) (n : Nat), okDs cs r n = true → FL ty A ⟨fun _ => False, fun _ => 0, fun _ => undef⟩ [] [] w' r n (cs.map CT.k1) (lits cs r n) := by
      intro cs
      induction cs with
      | nil => intro n _; trivial
      | cons c cs ih =>
        intro n hc
        simp only [okDs, Bool.and_eq_true] at hc
        have hcnt : c.k1.cnt = 1 := by cases c <;> rfl
        rw [List.map_cons, lits]
        refine ⟨⟨[r.getD n d0], by rw [hcnt]; rfl, fun i hi => ?_, ?_⟩, ?_⟩
        · rw [hcnt] at hi
          have : i = 0 := by omega
          subst this
          rfl
        · have h1 := hc.1
          cases c with
          | b => cases hd : r.getD n d0 <;> rw [hd] at h1 <;> simp [okD] at h1; exact ⟨_, rfl, rfl⟩
          | i k => cases hd : r.getD n d0 <;> rw [hd] at h1 <;> simp [okD] at h1; exact ⟨_, rfl, rfl⟩
          | s => cases hd : r.getD n d0 <;> rw [hd] at h1 <;> simp [okD] at h1; exact ⟨_, rfl, rfl⟩
          | sl e => simp [okD] at h1
        · rw [hcnt]
          exact ih (n + 1) hc.2
    exact this rcts 0 hf
  · rw [rkAll_ct, List.flatMap_nil, List.append_nil, List.append_nil]
    have : ∀ (cs : List CT) (us : List Value), Apart (cs.map CT.k1) us := by
      intro cs
      induction cs with
      | nil => intro us; cases us <;> trivial
      | cons c cs ih =>
        intro us
        cases us with
        | nil => cases c <;> trivial
        | cons u us => cases c <;> exact ih us
    exact this rcts _

def primH (cts rcts : List CT) (q : List DC → Option (List DC)) : Hint → List DC → Option (List DC) := fun h v => if hintLit cts h = true then (match q v with | some r => if okDs rcts r 0 = true then some r else none | none => none) else none

/-- A function that is met by a contract. -/
theorem prim_lit {G : Glob} {f : Nat} {fi : FI} {fd : Func} {cts rcts : List CT} {q : List DC → Option (List DC)} (h1 : P.funcs[f]? = some fd) (h2 : (fd.name == "runtime.NumGoroutine") = false) (h3 : fd.body.isNone = false)
    (hrk : fi.rk = rcts.map fun c => (false, [RK.ct c])) (hp : fi.prim = some fun h v => if hintLit cts h = true then (match q v with | some r => if okDs rcts r 0 = true then some r else none | none => none) else none)
    (hq : ∀ v r w, q v = some r → G.ok w → Calls P f (lits cts v 0).toArray w fun e w' => e = .returned (resVal (lits rcts r 0)) ∧ RowKit.Below w.heap.size w w') : FnOk P G ty f fi := by
  refine ⟨⟨fd, h1, h2, h3, fun h => by rw [hp] at h; simp at h⟩, fun p hpp h v r e => ?_⟩
  rw [hp] at hpp
  simp only [Option.some.injEq] at hpp
  subst hpp
  dsimp only at e
  split at e
  · rename_i hh
    cases hqv : q v with
    | none => rw [hqv] at e; simp at e
    | some r' =>
      rw [hqv] at e
      dsimp only at e
      split at e
      · rename_i hok
        simp only [Option.some.injEq] at e
        subst e
        unfold hintLit at hh
        rw [Bool.and_eq_true] at hh
        obtain ⟨k1, k2⟩ := hh
        have hob : h.ob = [] := by
          cases ho : h.ob with
          | nil => rfl
          | cons a l => rw [ho] at k2; simp at k2
        have htm := tmIs_eq k1
        have hflat := tmIs_flat k1
        obtain ⟨tm, ob⟩ := h
        dsimp only at hob htm k1
        subst hob htm
        intro A g vals w hA hr hs hw hm
        have hvals := lit_args hflat hr (by simpa using hs)
        subst hw
        have hc := hq v r' A.w0 hqv hA.1
        rw [← hvals] at hc
        refine Calls.mono hc fun en w' hen => ?_
        obtain ⟨rfl, bel⟩ := hen
        refine ⟨_, rfl, ?_⟩
        rw [hrk]
        refine lit_res hok (by rw [hm]; rfl) ⟨bel.os, bel.tape, bel.output, bel.size, fun b hb _ _ => bel.block b hb⟩
      · simp at e
  · simp at e

end
end Go.Proofs.YtgmfpgbgknlojaaGreatDoorV

namespace Go.Proofs
open Go.Shelf Go.RowKit Go.Lib
variable {P : Program} {ρ : Ren}

def eE : ByteArray := ⟨#[101, 69]⟩

theorem below_iter (w : World) (s : ByteArray) (p : Nat) : Below w.heap.size w (w.iter s p) := by
  have hs : (w.iter s p).heap = w.heap.push (.stringIter s p) := rfl
  exact ⟨rfl, rfl, rfl, by rw [hs]; simp, fun b hb => by rw [hs, Array.getElem?_push, if_neg (by omega)]⟩

set_option maxHeartbeats 2000000 in
set_option maxRecDepth 1000000 in
theorem IndexRune_ee_err (L : Lays.n152 P ρ) (w : World) :
    Calls P (ρ.f 152) #[.string eE, .int .i32 65533] w fun e w' => e = .returned (.int .i64 (-1)) ∧ Below w.heap.size w w' := by
  have t3 := L.t3; have a3 := L.a3; have z3 := L.z3; have v3 := L.v3
  have t4 := L.t4; have a4 := L.a4; have z4 := L.z4; have v4 := L.v4
  have t5 := L.t5; have a5 := L.a5; have z5 := L.z5; have v5 := L.v5
  have t9 := L.t9; have a9 := L.a9; have z9 := L.z9; have v9 := L.v9
  have t21 := L.t21; have a21 := L.a21; have z21 := L.z21; have v21 := L.v21
  have n0 := fun ty => run_next_ascii (P := P) w eE 0 ty (by decide) (by decide)
  have n1 := fun ty => run_next_ascii (P := P) w eE 1 ty (by decide) (by decide)
  have n2 := fun ty => run_next_end (P := P) w eE 2 ty (by decide)
  go_enter L.f152, Body.n152_ntmps ρ
  go_wp2
  go_loopg [5, 6] 2 (fun g _ _ wx => ∃ i : Nat, i + g = 2 ∧ wx = w.iter eE i)
  case atStart => exact ⟨0, rfl, rfl⟩
  case round =>
    obtain ⟨i, hig, rfl⟩ := hrel
    cases gk with
    | zero =>
      obtain rfl : i = 2 := by omega
      go_wp2
      go_ret
      exact ⟨rfl, below_iter _ _ _⟩
    | succ g =>
      rcases Nat.lt_or_ge 0 i with h | h
      · obtain rfl : i = 1 := by omega
        have e1 : ((eE[1]'(by decide)).toNat : Int) = 69 := by decide
        simp only [e1] at n1
        go_wp2
        go_roundg g
        case measure => omega
        case rel => exact ⟨2, by omega, rfl⟩
      · obtain rfl : i = 0 := by omega
        have e0 : ((eE[0]'(by decide)).toNat : Int) = 101 := by decide
        simp only [e0] at n0
        go_wp2
        go_roundg g
        case measure => omega
        case rel => exact ⟨1, by omega, rfl⟩

set_option maxHeartbeats 2000000 in
set_option maxRecDepth 1000000 in
theorem IndexRune_ee_bad (L : Lays.n152 P ρ) (r : Int) (w : World) (h0 : 128 ≤ r) (h1 : ¬ r = 65533) (h2 : Lib.validRune r = false) :
    Calls P (ρ.f 152) #[.string eE, .int .i32 r] w fun e w' => e = .returned (.int .i64 (-1)) ∧ Below w.heap.size w w' := by
  have t3 := L.t3; have a3 := L.a3; have z3 := L.z3; have v3 := L.v3
  have t4 := L.t4; have a4 := L.a4; have z4 := L.z4; have v4 := L.v4
  have t5 := L.t5; have a5 := L.a5; have z5 := L.z5; have v5 := L.v5
  have t9 := L.t9; have a9 := L.a9; have z9 := L.z9; have v9 := L.v9
  have t21 := L.t21; have a21 := L.a21; have z21 := L.z21; have v21 := L.v21
  have hlt : decide (r < 128) = false := decide_eq_false (by omega)
  have hge : decide (0 ≤ r) = true := decide_eq_true (by omega)
  have hne : (r == 65533) = false := beq_eq_false_iff_ne.2 h1
  have e119 : ∀ args w, (callFunc (ρ.f 119) args).run P w = .ok (.enter (ρ.f 119) args) w := enters_of L.f119 (by kernel_rfl) rfl
  go_enter L.f152, Body.n152_ntmps ρ
  go_wp2_with (go_at_fn (ρ.f 119); refine (Any.utf8_ValidRune { L with } _ _).mono ?_; rintro e w' ⟨rfl, hw⟩; rw [hw, h2])
  go_ret
  exact ⟨rfl, Below.refl _ _⟩

set_option maxHeartbeats 2000000 in
set_option maxRecDepth 1000000 in
theorem IndexRune_ee_big (L : Lays.n152 P ρ) (r : Int) (w : World) (h0 : 128 ≤ r) (h1 : ¬ r = 65533) (h2 : Lib.validRune r = true) (h3 : 3 ≤ (Utf8.encode r).size) (h4 : (Utf8.encode r).size ≤ 4) :
    Calls P (ρ.f 152) #[.string eE, .int .i32 r] w fun e w' => e = .returned (.int .i64 (-1)) ∧ Below w.heap.size w w' := by
  have t3 := L.t3; have a3 := L.a3; have z3 := L.z3; have v3 := L.v3
  have t4 := L.t4; have a4 := L.a4; have z4 := L.z4; have v4 := L.v4
  have t5 := L.t5; have a5 := L.a5; have z5 := L.z5; have v5 := L.v5
  have t9 := L.t9; have a9 := L.a9; have z9 := L.z9; have v9 := L.v9
  have t21 := L.t21; have a21 := L.a21; have z21 := L.z21; have v21 := L.v21
  have hlt : decide (r < 128) = false := decide_eq_false (by omega)
  have hge : decide (0 ≤ r) = true := decide_eq_true (by omega)
  have hne : (r == 65533) = false := beq_eq_false_iff_ne.2 h1
  have e119 : ∀ args w, (callFunc (ρ.f 119) args).run P w = .ok (.enter (ρ.f 119) args) w := enters_of L.f119 (by kernel_rfl) rfl
  have e137 : ∀ args w, (callFunc (ρ.f 137) args).run P w = .ok (.enter (ρ.f 137) args) w := enters_of L.f137 (by kernel_rfl) rfl
  go_enter L.f152, Body.n152_ntmps ρ
  go_wp2_with (go_at_fn (ρ.f 119); refine (Any.utf8_ValidRune { L with } _ _).mono ?_; rintro e w' ⟨rfl, hw⟩; rw [hw, h2])
  have u21s : (P.underlying (ρ.t 21)).isSome = true := by rw [t21]; rfl
  have hw3 : (Utf8.encode r).size = 3 ∨ (Utf8.encode r).size = 4 := by omega
  go_step3
  go_wp2
  have hc : decide (((Utf8.encode r).size : Int) - 1 < (eE.size : Int)) = false := decide_eq_false (by have : (eE.size : Int) = 2 := rfl; omega)
  go_loopg [9] 1 (fun g x wx => g = 1 ∧ x = Value.int .i64 (((Utf8.encode r).size : Int) - 1) ∧ wx = w)
  case atStart => exact ⟨rfl, rfl, rfl⟩
  case round =>
    obtain ⟨_, rfl, rfl⟩ := hrel
    go_wp2
    rw [Exit.noGoto_ret]
    go_ret
    exact ⟨rfl, Below.refl _ _⟩
set_option maxHeartbeats 2000000 in
set_option maxRecDepth 1000000 in
theorem IndexRune_ee_two (L : Lays.n152 P ρ) (r : Int) (w : World) (h0 : 128 ≤ r) (h1 : ¬ r = 65533) (h2 : Lib.validRune r = true) (h3 : (Utf8.encode r).size = 2) :
    Calls P (ρ.f 152) #[.string eE, .int .i32 r] w fun e w' => e = .returned (.int .i64 (-1)) ∧ Below w.heap.size w w' := by
  have mixed := L.mixed
  have t3 := L.t3; have a3 := L.a3; have z3 := L.z3; have v3 := L.v3
  have t4 := L.t4; have a4 := L.a4; have z4 := L.z4; have v4 := L.v4
  have t5 := L.t5; have a5 := L.a5; have z5 := L.z5; have v5 := L.v5
  have t9 := L.t9; have a9 := L.a9; have z9 := L.z9; have v9 := L.v9
  have t21 := L.t21; have a21 := L.a21; have z21 := L.z21; have v21 := L.v21
  have h2' := h2
  have hlt : decide (r < 128) = false := decide_eq_false (by omega)
  have hge : decide (0 ≤ r) = true := decide_eq_true (by omega)
  have hne : (r == 65533) = false := beq_eq_false_iff_ne.2 h1
  have e119 : ∀ args w, (callFunc (ρ.f 119) args).run P w = .ok (.enter (ρ.f 119) args) w := enters_of L.f119 (by kernel_rfl) rfl
  have e137 : ∀ args w, (callFunc (ρ.f 137) args).run P w = .ok (.enter (ρ.f 137) args) w := enters_of L.f137 (by kernel_rfl) rfl
  go_enter L.f152, Body.n152_ntmps ρ
  go_wp2_with (go_at_fn (ρ.f 119); refine (Any.utf8_ValidRune { L with } _ _).mono ?_; rintro e w' ⟨rfl, hw⟩; rw [hw, h2])
  have u21s : (P.underlying (ρ.t 21)).isSome = true := by rw [t21]; rfl
  go_step3
  go_wp2
  have iE : ∀ w : World, (Instr.index (ρ.t 9) (.string eE) (.int .i64 1)).run P w = .ok (.int .u8 69) w := fun w => by
    rw [run_index_string w (ρ.t 9) eE .i64 1 t9, dif_pos (by decide)]; rfl
  obtain ⟨B, hB, iR⟩ : ∃ B : UInt8, 128 ≤ B.toNat ∧ ∀ w : World, (Instr.index (ρ.t 9) (.string (Utf8.encode r)) (.int .i64 1)).run P w = .ok (.int .u8 (B.toNat : Int)) w := by
    have hf := (encode_facts r (by rw [validRune_eq]; exact h2') h0).2.2 (by omega)
    refine ⟨(Utf8.encode r)[1]'(by omega), ?_, fun w => ?_⟩
    · have e : (Utf8.encode r)[(Utf8.encode r).size - 1]'(by omega) = (Utf8.encode r)[1]'(by omega) := by congr 1; omega
      rw [← e]; exact hf
    · rw [run_index_string w (ρ.t 9) _ .i64 1 t9, dif_pos (by omega)]; rfl
  have hne1 : ((69 : Int) == (B.toNat : Int)) = false := beq_eq_false_iff_ne.2 (by omega)
  have hback : ((B.toNat : Int)).toNat.toUInt8 = B := by simp
  have hib : Lib.indexByte (eE.extract 2 eE.size).data.toList B = -1 := by
    have : (eE.extract 2 eE.size).data.toList = [] := by decide
    rw [this]; rfl
  have hc : decide ((1 : Int) < (eE.size : Int)) = true := by decide
  have hw2 : IntKind.i64.wrap 2 = 2 := by decide
  have hle2 : (0 : Int) ≤ 2 ∧ (2 : Int) ≤ (eE.size : Int) := by decide

  go_loopg [9] 1 (fun g x wx => g = 1 ∧ x = Value.int .i64 1 ∧ wx = w)
  case atStart => exact ⟨rfl, rfl, rfl⟩
  case round =>
    obtain ⟨_, rfl, rfl⟩ := hrel
    go_wp2
    go_step3
    go_wp2
    go_region_o
    go_wp2
    go_region_with_o (go_at_fn (ρ.f 137); refine (Any.strings_IndexByte { L with } _ _ _).mono ?_; rintro e w' ⟨rfl, hw⟩; rw [hw, hback])
    go_wp2
    rw [Exit.noGoto_ret]
    go_wp2
    rw [Exit.noGoto_ret]
    go_ret
    exact ⟨rfl, ((Below.refl _ _).drew).drew⟩

def irE (r : Int) : Int := if r < 128 then Lib.indexByte eE.data.toList r.toNat.toUInt8 else -1

theorem IndexRune_ee (L : Lays.n152 P ρ) (r : Int) (w : World) (h0 : 0 ≤ r) (h2 : Lib.validRune r = true) :
    Calls P (ρ.f 152) #[.string eE, .int .i32 r] w fun e w' => e = .returned (.int .i64 (irE r)) ∧ Below w.heap.size w w' := by
  by_cases h : r < 128
  · refine (Any.strings_IndexRune_ascii L eE r w h0 h).mono ?_
    rintro e w' ⟨rfl, hw⟩
    rw [hw]
    exact ⟨by rw [irE, if_pos h], Below.refl _ _⟩
  · have e : irE r = -1 := by rw [irE, if_neg h]
    rw [e]
    by_cases h1 : r = 65533
    · subst h1; exact IndexRune_ee_err L w
    · have hf := encode_facts r (by rw [validRune_eq]; exact h2) (by omega)
      by_cases h3 : (Utf8.encode r).size = 2
      · exact IndexRune_ee_two L r w (by omega) h1 h2 h3
      · exact IndexRune_ee_big L r w (by omega) h1 h2 (by omega) (by omega)

theorem run_next_gen (w : World) (b : Nat) (s : ByteArray) (pos : Nat) (ty : TypeId) (hb : w.heap[b]? = some (.stringIter s pos)) (h : pos < s.size) :
    (Instr.next (.pointer (some ⟨b, 0, none⟩)) true ty).run P w =
      .ok (.tuple #[.bool true, .int .i64 pos, .int .i32 (Utf8.decode s pos).1]) { w with heap := w.heap.setIfInBounds b (.stringIter s (pos + (Utf8.decode s pos).2)) } := by
  simp only [Instr.next, getObj, setObj, Sem.run_bind, Sem.run, hb, Result.andThen, h, if_true]
  simp [goInt]
theorem run_next_gend (w : World) (b : Nat) (s : ByteArray) (pos : Nat) (ty : TypeId) (hb : w.heap[b]? = some (.stringIter s pos)) (h : ¬ pos < s.size) :
    (Instr.next (.pointer (some ⟨b, 0, none⟩)) true ty).run P w = .ok (.tuple #[.bool false]) w := by
  simp [Instr.next, getObj, Sem.run, hb, h]

theorem decodeN_wide (n b0 b1 b2 b3 : Nat) (hn : 0 < n) : 1 ≤ (Lib.decodeN n b0 b1 b2 b3).2 ∧ (Lib.decodeN n b0 b1 b2 b3).2 ≤ n ∧ (Lib.decodeN n b0 b1 b2 b3).2 ≤ 4 ∧ (1 < (Lib.decodeN n b0 b1 b2 b3).2 → 128 ≤ b1) ∧ (2 < (Lib.decodeN n b0 b1 b2 b3).2 → 128 ≤ b2) ∧ (3 < (Lib.decodeN n b0 b1 b2 b3).2 → 128 ≤ b3) ∧ (b0 < 128 → (Lib.decodeN n b0 b1 b2 b3).1 = b0) ∧ (128 ≤ b0 → 128 ≤ (Lib.decodeN n b0 b1 b2 b3).1) := by
  unfold Lib.decodeN
  repeat' split
  all_goals (refine ⟨?_, ?_, ?_, ?_, ?_, ?_, ?_, ?_⟩ <;> intros <;> (first | rfl | (simp only at *; omega)))

theorem get!_at (s : ByteArray) (i : Nat) (h : i < s.size) : s.data.toList[i]? = some (s.get! i) := by
  rw [Lib.data_getElem? s i h]
  congr 1
  exact (get_at s i h).symm.trans (by rw [Nat.add_zero])

theorem eE_contains (x : UInt8) (h : 128 ≤ x.toNat) : eE.data.toList.contains x = false := by
  have e : eE.data.toList = [101, 69] := rfl
  rw [e]
  have h1 : (x == 101) = false := beq_eq_false_iff_ne.2 (by rintro rfl; exact absurd h (by decide))
  have h2 : (x == 69) = false := beq_eq_false_iff_ne.2 (by rintro rfl; exact absurd h (by decide))
  simp only [List.contains, List.elem, h1, h2]

theorem noAny_skip {s : ByteArray} {i : Nat} (hno : Lib.NoAny s.data.toList eE.data.toList i) (hi : i < s.size) (h0 : eE.data.toList.contains (s.get! i) = false) :
    Lib.NoAny s.data.toList eE.data.toList (i + (Utf8.decode s i).2) := by
  have hw := decodeN_wide (s.size - i) (s.get! i).toNat (s.get! (i + 1)).toNat (s.get! (i + 2)).toNat (s.get! (i + 3)).toNat (by omega)
  rw [← Lib.decode_at] at hw
  intro j b hj hb
  by_cases h : j < i
  · exact hno j b h hb
  · have hjs : j < s.size := by omega
    rw [get!_at s j hjs] at hb
    injection hb with hb
    subst hb
    obtain ⟨k, rfl⟩ : ∃ k, j = i + k := ⟨j - i, by omega⟩
    rcases k with _ | _ | _ | _ | k
    · exact h0
    · exact eE_contains _ (hw.2.2.2.1 (by omega))
    · exact eE_contains _ (hw.2.2.2.2.1 (by omega))
    · exact eE_contains _ (hw.2.2.2.2.2.1 (by omega))
    · omega

theorem below_setIter {w wx : World} {b : Nat} {o : Obj} (hw : Below b w wx) : Below b w { wx with heap := wx.heap.setIfInBounds b o } := by
  refine ⟨hw.os, hw.tape, hw.output, ?_, fun k hk => ?_⟩
  · show w.heap.size ≤ (wx.heap.setIfInBounds b o).size
    rw [Array.size_setIfInBounds]; exact hw.size
  · show (wx.heap.setIfInBounds b o)[k]? = _
    rw [Array.getElem?_setIfInBounds, if_neg (by omega)]
    exact hw.block k hk

theorem irE_hit (s : ByteArray) (i : Nat) (hi : i < s.size) (h : eE.data.toList.contains (s.get! i) = true) : (0 : Int) ≤ irE (Utf8.decode s i).1 := by
  have hw := decodeN_wide (s.size - i) (s.get! i).toNat (s.get! (i + 1)).toNat (s.get! (i + 2)).toNat (s.get! (i + 3)).toNat (by omega)
  rw [← Lib.decode_at] at hw
  have hx : (s.get! i).toNat < 128 := by
    rcases Nat.lt_or_ge (s.get! i).toNat 128 with h' | h'
    · exact h'
    · rw [eE_contains _ h'] at h; cases h
  have hr := hw.2.2.2.2.2.2.1 hx
  have hcon := Lib.contains_iff_indexByte eE.data.toList (s.get! i)
  rw [h] at hcon
  rw [hr, irE, if_pos (by omega)]
  have e : ((((s.get! i).toNat : Nat) : Int)).toNat.toUInt8 = s.get! i := by simp
  rw [e]
  exact of_decide_eq_true hcon.symm
theorem irE_no (s : ByteArray) (i : Nat) (hi : i < s.size) (h : eE.data.toList.contains (s.get! i) = false) : ¬ (0 : Int) ≤ irE (Utf8.decode s i).1 := by
  have hw := decodeN_wide (s.size - i) (s.get! i).toNat (s.get! (i + 1)).toNat (s.get! (i + 2)).toNat (s.get! (i + 3)).toNat (by omega)
  rw [← Lib.decode_at] at hw
  have hcon := Lib.contains_iff_indexByte eE.data.toList (s.get! i)
  rw [h] at hcon
  unfold irE
  split
  · rename_i hr
    have hx : (s.get! i).toNat < 128 := by
      rcases Nat.lt_or_ge (s.get! i).toNat 128 with h' | h'
      · exact h'
      · have := hw.2.2.2.2.2.2.2 h'; omega
    have hr := hw.2.2.2.2.2.2.1 hx
    rw [hr]
    have e : ((((s.get! i).toNat : Nat) : Int)).toNat.toUInt8 = s.get! i := by simp
    rw [e]
    exact of_decide_eq_false hcon.symm
  · omega

set_option maxHeartbeats 8000000 in
set_option maxRecDepth 1000000 in
theorem IndexAny_ee_short (L : Lays.n153 P ρ) (s : ByteArray) (w : World) (h8 : s.size ≤ 8) :
    Calls P (ρ.f 153) #[.string s, .string eE] w fun e w' => e = .returned (.int .i64 (Lib.indexAny s.data.toList eE.data.toList)) ∧ Below w.heap.size w w' := by
  have hemp : eE.toList.isEmpty = false := by rw [Lib.toList_data]; rfl
  have hn1 : ((eE.size : Int) == 1) = false := by decide
  have h8z : decide ((8 : Int) < (s.size : Int)) = false := decide_eq_false (by omega)
  have t3 := L.t3; have a3 := L.a3; have z3 := L.z3; have v3 := L.v3
  have t4 := L.t4; have a4 := L.a4; have z4 := L.z4; have v4 := L.v4
  have t5 := L.t5; have a5 := L.a5; have z5 := L.z5; have v5 := L.v5
  have t9 := L.t9; have a9 := L.a9; have z9 := L.z9; have v9 := L.v9
  have t21 := L.t21; have a21 := L.a21; have z21 := L.z21; have v21 := L.v21
  have e152 : ∀ args w, (callFunc (ρ.f 152) args).run P w = .ok (.enter (ρ.f 152) args) w := enters_of L.f152 (by kernel_rfl) rfl
  have e226 : ∀ args w, (callFunc (ρ.f 226) args).run P w = .ok (.enter (ρ.f 226) args) w := enters_of L.f226 (by kernel_rfl) rfl
  go_enter L.f153, Body.n153_ntmps ρ
  go_wp2_with (go_at_fn (ρ.f 226); refine (Any.strings_shouldUseASCIISet { L with } _ _).mono ?_; rintro e w' ⟨rfl, hw⟩; rw [hw, h8z])
  go_loopg [9, 10] s.size (fun g _ _ wx => ∃ i : Nat, i + g = s.size ∧ wx.heap[w.heap.size]? = some (.stringIter s i) ∧ Below w.heap.size w wx ∧ Lib.NoAny s.data.toList eE.data.toList i)
  case atStart => exact ⟨0, by omega, World.iter_heap _ _ _, below_iter _ _ _, Lib.NoAny.zero _ _⟩
  case round =>
    obtain ⟨i, hig, hit, hbl, hno⟩ := hrel
    have HN : Aside (Lib.NoAny s.data.toList eE.data.toList i) := hno
    clear hno
    cases gk with
    | zero =>
      obtain rfl : i = s.size := by omega
      have hnx := fun ty => run_next_gend (P := P) wr w.heap.size s s.size ty hit (by omega)
      go_wp2
      go_ret
      exact ⟨by rw [Lib.indexAny_none (by rw [← Lib.size_eq]; exact HN.out)]; rfl, hbl⟩
    | succ g =>
      have hi : i < s.size := by omega
      have hnx := fun ty => run_next_gen (P := P) wr w.heap.size s i ty hit hi
      have hwd := decodeN_wide (s.size - i) (s.get! i).toNat (s.get! (i + 1)).toNat (s.get! (i + 2)).toNat (s.get! (i + 3)).toNat (by omega)
      rw [← Lib.decode_at] at hwd
      have hW1 := hwd.1
      have hW2 := hwd.2.1
      have hrv : Lib.validRune ((Utf8.decode s i).1 : Int) = true := by
        have h := Lib.decodeN_valid (s.size - i) (s.get! i).toNat (s.get! (i + 1)).toNat (s.get! (i + 2)).toNat (s.get! (i + 3)).toNat (UInt8.toNat_lt _)
        rw [← Lib.decode_at] at h
        simp only [Lib.validRune, decide_eq_true_eq]
        omega
      have HR : Aside (Lib.validRune ((Utf8.decode s i).1 : Int) = true) := hrv
      have hbl2 : Below w.heap.size w { wr with heap := wr.heap.setIfInBounds w.heap.size (.stringIter s (i + (Utf8.decode s i).2)) } := below_setIter hbl
      have hit2 : ({ wr with heap := wr.heap.setIfInBounds w.heap.size (.stringIter s (i + (Utf8.decode s i).2)) } : World).heap[w.heap.size]? = some (.stringIter s (i + (Utf8.decode s i).2)) := by
        have : w.heap.size < wr.heap.size := (Array.getElem?_eq_some_iff.1 hit).1
        show (wr.heap.setIfInBounds w.heap.size _)[w.heap.size]? = _
        rw [Array.getElem?_setIfInBounds, if_pos rfl, if_pos this]
      generalize hw2 : ({ wr with heap := wr.heap.setIfInBounds w.heap.size (.stringIter s (i + (Utf8.decode s i).2)) } : World) = w2 at *
      clear hw2 hwd hrv
      cases hin : eE.data.toList.contains (s.get! i)
      · have hlt := irE_no s i hi hin
        have hstep := noAny_skip HN.out hi hin
        have HS : Aside (Lib.NoAny s.data.toList eE.data.toList (i + (Utf8.decode s i).2)) := hstep
        clear hstep hin
        generalize hr : (Utf8.decode s i).1 = r at *
        generalize hwi : (Utf8.decode s i).2 = wi at *
        go_wp2_with (go_at_fn (ρ.f 152); refine (IndexRune_ee { L with } _ _ (by omega) HR.out).mono ?_; rintro e w3 ⟨rfl, hb3⟩)
        go_roundg (g + 1 - wi)
        case measure => omega
        case rel =>
          refine ⟨i + wi, by omega, ?_, ?_, HS.out⟩
          · rw [hb3.block _ (Array.getElem?_eq_some_iff.1 hit2).1]; exact hit2
          · exact hbl2.trans (hb3.mono hbl2.size)
      · have hge := irE_hit s i hi hin
        have HX : Aside (Lib.indexAny s.data.toList eE.data.toList = (i : Int)) := Lib.indexAny_hit HN.out (get!_at s i hi) hin
        clear hin
        generalize hr : (Utf8.decode s i).1 = r at *
        generalize hwi : (Utf8.decode s i).2 = wi at *
        go_wp2_with (go_at_fn (ρ.f 152); refine (IndexRune_ee { L with } _ _ (by omega) HR.out).mono ?_; rintro e w3 ⟨rfl, hb3⟩)
        go_ret
        exact ⟨by rw [HX.out]; rfl, hbl2.trans (hb3.mono hbl2.size)⟩

theorem IndexAny_ee (L : Lays.n153 P ρ) (hv116 : ∀ w, (zeroValue (ρ.t 116)).run P w = .ok (.agg (Array.replicate 256 (.bool false))) w) (hi116 : (P.info? (ρ.t 116)).map (·.size) = some 256) (s : ByteArray) (w : World) (hs : s.size < 4294967281) :
    Calls P (ρ.f 153) #[.string s, .string eE] w fun e w' => e = .returned (.int .i64 (Lib.indexAny s.data.toList [101, 69])) ∧ Below w.heap.size w w' := by
  rcases Nat.lt_or_ge 8 s.size with h | h
  · refine (Any.strings_IndexAny_long L hv116 hi116 s eE w (by decide) h hs (by decide) ?_).mono ?_
    · intro j b hj
      have e : eE.data.toList = [101, 69] := rfl
      rw [e] at hj
      rcases j with _ | _ | j
      · injection hj with hj; subst hj; decide
      · injection hj with hj; subst hj; decide
      · simp at hj
    · rintro e w' ⟨rfl, hw⟩
      subst hw
      exact ⟨rfl, ((Below.refl _ _).alloc (Nat.le_refl _) _).alloc (by show w.heap.size ≤ (w.heap.push _).size; rw [Array.size_push]; omega) _⟩
  · exact IndexAny_ee_short L s w h

#print axioms IndexAny_ee
end Go.Proofs

/- Contracts of the library that are met, and what the package variables hold (written by a program). -/
namespace Go.Proofs
open Go.Shelf
def Tryz.lays153_ren : Go.Shelf.Ren := ⟨fun | 153 => 143 | 152 => 135 | 226 => 156 | 227 => 105 | 228 => 117 | 137 => 146 | 119 => 152 | 224 => 139 | 225 => 138 | 217 => 137 | 266 => 153 | n => n, fun | 9 => 9 | 3 => 3 | 4 => 4 | 5 => 5 | 21 => 21 | 117 => 142 | 116 => 141 | 0 => 0 | 46 => 158 | 124 => 145 | n => n, fun | n => n⟩
theorem Tryz.lays153 : Go.Proofs.Lays.n153 Tryz.prog Tryz.lays153_ren := {
  mixed := by kernel_rfl,
  f119 := Tryz.func152.trans (congrArg some (by kernel_rfl)),
  f137 := Tryz.func146.trans (congrArg some (by kernel_rfl)),
  f152 := Tryz.func135.trans (congrArg some (by kernel_rfl)),
  f153 := Tryz.func143.trans (congrArg some (by kernel_rfl)),
  f217 := Tryz.func137.trans (congrArg some (by kernel_rfl)),
  f224 := Tryz.func139.trans (congrArg some (by kernel_rfl)),
  f225 := Tryz.func138.trans (congrArg some (by kernel_rfl)),
  f226 := Tryz.func156.trans (congrArg some (by kernel_rfl)),
  f227 := Tryz.func105.trans (congrArg some (by kernel_rfl)),
  f228 := Tryz.func117.trans (congrArg some (by kernel_rfl)),
  f266 := Tryz.func153.trans (congrArg some (by kernel_rfl)),
  t0 := Tryz.underlying0,
  a0 := Tryz.isAgg0,
  z0 := Tryz.sizeOf0,
  v0 := Tryz.zeroValue0,
  t3 := Tryz.underlying3,
  a3 := Tryz.isAgg3,
  z3 := Tryz.sizeOf3,
  v3 := Tryz.zeroValue3,
  t4 := Tryz.underlying4,
  a4 := Tryz.isAgg4,
  z4 := Tryz.sizeOf4,
  v4 := Tryz.zeroValue4,
  t5 := Tryz.underlying5,
  a5 := Tryz.isAgg5,
  z5 := Tryz.sizeOf5,
  v5 := Tryz.zeroValue5,
  t9 := Tryz.underlying9,
  a9 := Tryz.isAgg9,
  z9 := Tryz.sizeOf9,
  v9 := Tryz.zeroValue9,
  t21 := Tryz.underlying21,
  a21 := Tryz.isAgg21,
  z21 := Tryz.sizeOf21,
  v21 := Tryz.zeroValue21,
  t46 := Tryz.underlying158,
  a46 := Tryz.isAgg158,
  z46 := Tryz.sizeOf158,
  v46 := Tryz.zeroValue158,
  t116 := Tryz.underlying141,
  a116 := Tryz.isAgg141,
  z116 := Tryz.sizeOf141,
  t117 := Tryz.underlying142,
  a117 := Tryz.isAgg142,
  z117 := Tryz.sizeOf142,
  v117 := Tryz.zeroValue142,
  t124 := Tryz.underlying145,
  a124 := Tryz.isAgg145,
  z124 := Tryz.sizeOf145,
  v124 := Tryz.zeroValue145 }
def Tryz.lays196_ren : Go.Shelf.Ren := ⟨fun | 196 => 158 | 259 => 161 | n => n, fun | 9 => 9 | 4 => 4 | 3 => 3 | 5 => 5 | 12 => 12 | 119 => 165 | 0 => 0 | 46 => 158 | 139 => 168 | 138 => 167 | 53 => 177 | n => n, fun | 3 => 1 | 4 => 2 | n => n⟩
theorem Tryz.lays196 : Go.Proofs.Lays.n196 Tryz.prog Tryz.lays196_ren := {
  mixed := by kernel_rfl,
  f196 := Tryz.func158.trans (congrArg some (by kernel_rfl)),
  f259 := Tryz.func161.trans (congrArg some (by kernel_rfl)),
  t0 := Tryz.underlying0,
  a0 := Tryz.isAgg0,
  z0 := Tryz.sizeOf0,
  v0 := Tryz.zeroValue0,
  t3 := Tryz.underlying3,
  a3 := Tryz.isAgg3,
  z3 := Tryz.sizeOf3,
  v3 := Tryz.zeroValue3,
  t4 := Tryz.underlying4,
  a4 := Tryz.isAgg4,
  z4 := Tryz.sizeOf4,
  v4 := Tryz.zeroValue4,
  t5 := Tryz.underlying5,
  a5 := Tryz.isAgg5,
  z5 := Tryz.sizeOf5,
  v5 := Tryz.zeroValue5,
  t9 := Tryz.underlying9,
  a9 := Tryz.isAgg9,
  z9 := Tryz.sizeOf9,
  v9 := Tryz.zeroValue9,
  t12 := Tryz.underlying12,
  a12 := Tryz.isAgg12,
  z12 := Tryz.sizeOf12,
  v12 := Tryz.zeroValue12,
  t46 := Tryz.underlying158,
  a46 := Tryz.isAgg158,
  z46 := Tryz.sizeOf158,
  v46 := Tryz.zeroValue158,
  t53 := Tryz.underlying177,
  a53 := Tryz.isAgg177,
  z53 := Tryz.sizeOf177,
  v53 := Tryz.zeroValue177,
  t119 := Tryz.underlying165,
  a119 := Tryz.isAgg165,
  z119 := Tryz.sizeOf165,
  t138 := Tryz.underlying167,
  a138 := Tryz.isAgg167,
  z138 := Tryz.sizeOf167,
  v138 := Tryz.zeroValue167,
  t139 := Tryz.underlying168,
  a139 := Tryz.isAgg168,
  z139 := Tryz.sizeOf168,
  v139 := Tryz.zeroValue168,
  g3 := by kernel_rfl,
  g4 := by kernel_rfl }
def Tryz.lays220_ren : Go.Shelf.Ren := ⟨fun | 220 => 157 | 219 => 121 | 217 => 137 | 225 => 138 | 224 => 139 | 267 => 140 | 266 => 153 | 314 => 154 | n => n, fun | 9 => 9 | 4 => 4 | 3 => 3 | 5 => 5 | 46 => 158 | 146 => 171 | 51 => 170 | n => n, fun | 1 => 0 | n => n⟩
theorem Tryz.lays220 : Go.Proofs.Lays.n220 Tryz.prog Tryz.lays220_ren := {
  mixed := by kernel_rfl,
  f217 := Tryz.func137.trans (congrArg some (by kernel_rfl)),
  f219 := Tryz.func121.trans (congrArg some (by kernel_rfl)),
  f220 := Tryz.func157.trans (congrArg some (by kernel_rfl)),
  f224 := Tryz.func139.trans (congrArg some (by kernel_rfl)),
  f225 := Tryz.func138.trans (congrArg some (by kernel_rfl)),
  f266 := Tryz.func153.trans (congrArg some (by kernel_rfl)),
  f267 := Tryz.func140.trans (congrArg some (by kernel_rfl)),
  f314 := Tryz.func154.trans (congrArg some (by kernel_rfl)),
  t3 := Tryz.underlying3,
  a3 := Tryz.isAgg3,
  z3 := Tryz.sizeOf3,
  v3 := Tryz.zeroValue3,
  t4 := Tryz.underlying4,
  a4 := Tryz.isAgg4,
  z4 := Tryz.sizeOf4,
  v4 := Tryz.zeroValue4,
  t5 := Tryz.underlying5,
  a5 := Tryz.isAgg5,
  z5 := Tryz.sizeOf5,
  v5 := Tryz.zeroValue5,
  t9 := Tryz.underlying9,
  a9 := Tryz.isAgg9,
  z9 := Tryz.sizeOf9,
  v9 := Tryz.zeroValue9,
  t46 := Tryz.underlying158,
  a46 := Tryz.isAgg158,
  z46 := Tryz.sizeOf158,
  v46 := Tryz.zeroValue158,
  t51 := Tryz.underlying170,
  a51 := Tryz.isAgg170,
  z51 := Tryz.sizeOf170,
  v51 := Tryz.zeroValue170,
  t146 := Tryz.underlying171,
  a146 := Tryz.isAgg171,
  z146 := Tryz.sizeOf171,
  v146 := Tryz.zeroValue171,
  g1 := by kernel_rfl }
def Tryz.lays144_ren : Go.Shelf.Ren := ⟨fun | 144 => 88 | 143 => 110 | 219 => 121 | 217 => 137 | 225 => 138 | 224 => 139 | 267 => 140 | 266 => 153 | 314 => 154 | n => n, fun | 9 => 9 | 4 => 4 | 3 => 3 | 5 => 5 | 46 => 158 | 146 => 171 | 51 => 170 | n => n, fun | 1 => 0 | n => n⟩
theorem Tryz.lays144 : Go.Proofs.Lays.n144 Tryz.prog Tryz.lays144_ren := {
  mixed := by kernel_rfl,
  f143 := Tryz.func110.trans (congrArg some (by kernel_rfl)),
  f144 := Tryz.func88.trans (congrArg some (by kernel_rfl)),
  f217 := Tryz.func137.trans (congrArg some (by kernel_rfl)),
  f219 := Tryz.func121.trans (congrArg some (by kernel_rfl)),
  f224 := Tryz.func139.trans (congrArg some (by kernel_rfl)),
  f225 := Tryz.func138.trans (congrArg some (by kernel_rfl)),
  f266 := Tryz.func153.trans (congrArg some (by kernel_rfl)),
  f267 := Tryz.func140.trans (congrArg some (by kernel_rfl)),
  f314 := Tryz.func154.trans (congrArg some (by kernel_rfl)),
  t3 := Tryz.underlying3,
  a3 := Tryz.isAgg3,
  z3 := Tryz.sizeOf3,
  v3 := Tryz.zeroValue3,
  t4 := Tryz.underlying4,
  a4 := Tryz.isAgg4,
  z4 := Tryz.sizeOf4,
  v4 := Tryz.zeroValue4,
  t5 := Tryz.underlying5,
  a5 := Tryz.isAgg5,
  z5 := Tryz.sizeOf5,
  v5 := Tryz.zeroValue5,
  t9 := Tryz.underlying9,
  a9 := Tryz.isAgg9,
  z9 := Tryz.sizeOf9,
  v9 := Tryz.zeroValue9,
  t46 := Tryz.underlying158,
  a46 := Tryz.isAgg158,
  z46 := Tryz.sizeOf158,
  v46 := Tryz.zeroValue158,
  t51 := Tryz.underlying170,
  a51 := Tryz.isAgg170,
  z51 := Tryz.sizeOf170,
  v51 := Tryz.zeroValue170,
  t146 := Tryz.underlying171,
  a146 := Tryz.isAgg171,
  z146 := Tryz.sizeOf171,
  v146 := Tryz.zeroValue171,
  g1 := by kernel_rfl }
def Tryz.lays160_ren : Go.Shelf.Ren := ⟨fun | 160 => 87 | 232 => 104 | 231 => 103 | 227 => 105 | 234 => 107 | 233 => 106 | 236 => 109 | 235 => 108 | 228 => 117 | 271 => 120 | 151 => 119 | 197 => 118 | 120 => 136 | 152 => 135 | 260 => 134 | 137 => 146 | 119 => 152 | 224 => 139 | 225 => 138 | 217 => 137 | 266 => 153 | n => n, fun | 9 => 9 | 4 => 4 | 3 => 3 | 5 => 5 | 117 => 142 | 116 => 141 | 0 => 0 | 124 => 145 | 21 => 21 | 105 => 149 | 46 => 158 | 119 => 165 | 139 => 168 | 138 => 167 | n => n, fun | 3 => 1 | 4 => 2 | n => n⟩
theorem Tryz.lays160 : Go.Proofs.Lays.n160 Tryz.prog Tryz.lays160_ren := {
  mixed := by kernel_rfl,
  f119 := Tryz.func152.trans (congrArg some (by kernel_rfl)),
  f120 := Tryz.func136.trans (congrArg some (by kernel_rfl)),
  f137 := Tryz.func146.trans (congrArg some (by kernel_rfl)),
  f151 := Tryz.func119.trans (congrArg some (by kernel_rfl)),
  f152 := Tryz.func135.trans (congrArg some (by kernel_rfl)),
  f160 := Tryz.func87.trans (congrArg some (by kernel_rfl)),
  f197 := Tryz.func118.trans (congrArg some (by kernel_rfl)),
  f217 := Tryz.func137.trans (congrArg some (by kernel_rfl)),
  f224 := Tryz.func139.trans (congrArg some (by kernel_rfl)),
  f225 := Tryz.func138.trans (congrArg some (by kernel_rfl)),
  f227 := Tryz.func105.trans (congrArg some (by kernel_rfl)),
  f228 := Tryz.func117.trans (congrArg some (by kernel_rfl)),
  f231 := Tryz.func103.trans (congrArg some (by kernel_rfl)),
  f232 := Tryz.func104.trans (congrArg some (by kernel_rfl)),
  f233 := Tryz.func106.trans (congrArg some (by kernel_rfl)),
  f234 := Tryz.func107.trans (congrArg some (by kernel_rfl)),
  f235 := Tryz.func108.trans (congrArg some (by kernel_rfl)),
  f236 := Tryz.func109.trans (congrArg some (by kernel_rfl)),
  f260 := Tryz.func134.trans (congrArg some (by kernel_rfl)),
  f266 := Tryz.func153.trans (congrArg some (by kernel_rfl)),
  f271 := Tryz.func120.trans (congrArg some (by kernel_rfl)),
  t0 := Tryz.underlying0,
  a0 := Tryz.isAgg0,
  z0 := Tryz.sizeOf0,
  v0 := Tryz.zeroValue0,
  t3 := Tryz.underlying3,
  a3 := Tryz.isAgg3,
  z3 := Tryz.sizeOf3,
  v3 := Tryz.zeroValue3,
  t4 := Tryz.underlying4,
  a4 := Tryz.isAgg4,
  z4 := Tryz.sizeOf4,
  v4 := Tryz.zeroValue4,
  t5 := Tryz.underlying5,
  a5 := Tryz.isAgg5,
  z5 := Tryz.sizeOf5,
  v5 := Tryz.zeroValue5,
  t9 := Tryz.underlying9,
  a9 := Tryz.isAgg9,
  z9 := Tryz.sizeOf9,
  v9 := Tryz.zeroValue9,
  t21 := Tryz.underlying21,
  a21 := Tryz.isAgg21,
  z21 := Tryz.sizeOf21,
  v21 := Tryz.zeroValue21,
  t46 := Tryz.underlying158,
  a46 := Tryz.isAgg158,
  z46 := Tryz.sizeOf158,
  v46 := Tryz.zeroValue158,
  t105 := Tryz.underlying149,
  a105 := Tryz.isAgg149,
  z105 := Tryz.sizeOf149,
  v105 := Tryz.zeroValue149,
  t116 := Tryz.underlying141,
  a116 := Tryz.isAgg141,
  z116 := Tryz.sizeOf141,
  t117 := Tryz.underlying142,
  a117 := Tryz.isAgg142,
  z117 := Tryz.sizeOf142,
  v117 := Tryz.zeroValue142,
  t119 := Tryz.underlying165,
  a119 := Tryz.isAgg165,
  z119 := Tryz.sizeOf165,
  t124 := Tryz.underlying145,
  a124 := Tryz.isAgg145,
  z124 := Tryz.sizeOf145,
  v124 := Tryz.zeroValue145,
  t138 := Tryz.underlying167,
  a138 := Tryz.isAgg167,
  z138 := Tryz.sizeOf167,
  v138 := Tryz.zeroValue167,
  t139 := Tryz.underlying168,
  a139 := Tryz.isAgg168,
  z139 := Tryz.sizeOf168,
  v139 := Tryz.zeroValue168,
  g3 := by kernel_rfl,
  g4 := by kernel_rfl }
def Tryz.lays217_ren : Go.Shelf.Ren := ⟨fun | 217 => 137 | 266 => 153 | n => n, fun | 9 => 9 | 5 => 5 | 3 => 3 | n => n, fun | n => n⟩
theorem Tryz.lays217 : Go.Proofs.Lays.n217 Tryz.prog Tryz.lays217_ren := {
  mixed := by kernel_rfl,
  f217 := Tryz.func137.trans (congrArg some (by kernel_rfl)),
  f266 := Tryz.func153.trans (congrArg some (by kernel_rfl)),
  t3 := Tryz.underlying3,
  a3 := Tryz.isAgg3,
  z3 := Tryz.sizeOf3,
  v3 := Tryz.zeroValue3,
  t5 := Tryz.underlying5,
  a5 := Tryz.isAgg5,
  z5 := Tryz.sizeOf5,
  v5 := Tryz.zeroValue5,
  t9 := Tryz.underlying9,
  a9 := Tryz.isAgg9,
  z9 := Tryz.sizeOf9,
  v9 := Tryz.zeroValue9 }
end Go.Proofs
namespace Go.Proofs.YtgmfpgbgknlojaaGreatDoorV
open Go
set_option linter.unusedVariables false
set_option maxRecDepth 100000
/-- What the package variables hold. -/
def gOk (w : World) : Prop := (Lib.Utf8Tabs 1 2 w) ∧ (∃ m, w.cell? ⟨0, 0, none⟩ = some (.int .i64 m))
theorem gOk_dep (w w' : World) (h : ∀ b, (b = 1 ∨ b = 2 ∨ b = 0) → w'.heap[b]? = w.heap[b]?) (k : gOk w) : gOk w' := by
  have h1 : ∀ o, w'.cell? ⟨1, o, none⟩ = w.cell? ⟨1, o, none⟩ := fun o => World.cell?_of_block (h 1 (by simp))
  have h2 : ∀ o, w'.cell? ⟨2, o, none⟩ = w.cell? ⟨2, o, none⟩ := fun o => World.cell?_of_block (h 2 (by simp))
  have h0 : ∀ o, w'.cell? ⟨0, o, none⟩ = w.cell? ⟨0, o, none⟩ := fun o => World.cell?_of_block (h 0 (by simp))
  obtain ⟨⟨k1, k2⟩, m, k3⟩ := k
  exact ⟨⟨fun c hc => (h1 _).trans (k1 c hc), fun i hi => ⟨(h2 _).trans (k2 i hi).1, (h2 _).trans (k2 i hi).2⟩⟩, m, (h0 _).trans k3⟩
def G : Glob := ⟨fun b => b = 1 ∨ b = 2 ∨ b = 0, gOk, gOk_dep⟩
/-- strings.IndexAny: what is answered. -/
def qIndexAny (v : List DC) : Option (List DC) := match v with
  | [.s s, .s c] => if s.length < 4294967281 ∧ c = [101, 69] then some [.i (Lib.indexAny s [101, 69])] else none
  | _ => none
theorem call_IndexAny (v r : List DC) (w : World) (hq : qIndexAny v = some r) (hG : G.ok w) : Calls Tryz.prog 143 (lits [.s, .s] v 0).toArray w fun e w' => e = .returned (resVal (lits [.i .i64] r 0)) ∧ RowKit.Below w.heap.size w w' := by
  unfold qIndexAny at hq
  split at hq
  · rename_i s c
    split at hq
    · rename_i hs
      obtain ⟨hs, rfl⟩ := hs
      injection hq with hq
      subst hq
      have h116 : (Tryz.prog.info? (Tryz.lays153_ren.t 116)).map (fun i => (i.zero, i.size)) = some (some (.agg (Array.replicate 256 (.bool false))), 256) := by kernel_rfl
      refine Calls.mono (IndexAny_ee Tryz.lays153 (zero_of_info h116).1 (zero_of_info h116).2 ⟨s.toArray⟩ w (by rw [Lib.size_eq]; simpa using hs)) fun e w' h => ?_
      obtain ⟨rfl, h⟩ := h
      exact ⟨rfl, h⟩
    · cases hq
  · cases hq
/-- unicode/utf8.ValidString: what is answered. -/
def qValidString (v : List DC) : Option (List DC) := match v with
  | [.s s] => if s.length ≤ 9223372036854775807 then some [.b (Lib.validD s)] else none
  | _ => none
theorem call_ValidString (v r : List DC) (w : World) (hq : qValidString v = some r) (hG : G.ok w) : Calls Tryz.prog 158 (lits [.s] v 0).toArray w fun e w' => e = .returned (resVal (lits [.b] r 0)) ∧ RowKit.Below w.heap.size w w' := by
  unfold qValidString at hq
  split at hq
  · rename_i s
    split at hq
    · rename_i hs
      injection hq with hq
      subst hq
      refine Calls.mono (Any.utf8_ValidString Tryz.lays196 ⟨s.toArray⟩ w (by rw [Lib.size_eq]; simpa using hs) hG.1) fun e w' h => ?_
      obtain ⟨rfl, h⟩ := h
      exact ⟨rfl, h⟩
    · cases hq
  · cases hq
/-- internal/stringslite.Cut: what is answered. -/
def qCut (v : List DC) : Option (List DC) := match v with
  | [.s s, .s c] => if s.length < 4294967281 then some [.s (Lib.cut s c).1, .s (Lib.cut s c).2.1, .b (Lib.cut s c).2.2] else none
  | _ => none
theorem call_Cut (v r : List DC) (w : World) (hq : qCut v = some r) (hG : G.ok w) : Calls Tryz.prog 157 (lits [.s, .s] v 0).toArray w fun e w' => e = .returned (resVal (lits [.s, .s, .b] r 0)) ∧ RowKit.Below w.heap.size w w' := by
  unfold qCut at hq
  split at hq
  · rename_i s c
    split at hq
    · rename_i hs
      injection hq with hq
      subst hq
      obtain ⟨m, hm⟩ := hG.2
      refine Calls.mono (Any.stringslite_Cut Tryz.lays220 ⟨s.toArray⟩ ⟨c.toArray⟩ m w (by rw [Lib.size_eq]; simpa using hs) hm) fun e w' h => ?_
      obtain ⟨rfl, k, rfl⟩ := h
      exact ⟨rfl, below_drewN _ _⟩
    · cases hq
  · cases hq
/-- strings.Contains: what is answered. -/
def qContains (v : List DC) : Option (List DC) := match v with
  | [.s s, .s c] => if s.length < 4294967281 then some [.b (Lib.contains s c)] else none
  | _ => none
theorem call_Contains (v r : List DC) (w : World) (hq : qContains v = some r) (hG : G.ok w) : Calls Tryz.prog 88 (lits [.s, .s] v 0).toArray w fun e w' => e = .returned (resVal (lits [.b] r 0)) ∧ RowKit.Below w.heap.size w w' := by
  unfold qContains at hq
  split at hq
  · rename_i s c
    split at hq
    · rename_i hs
      injection hq with hq
      subst hq
      obtain ⟨m, hm⟩ := hG.2
      refine Calls.mono (Any.strings_Contains Tryz.lays144 ⟨s.toArray⟩ ⟨c.toArray⟩ m w (by rw [Lib.size_eq]; simpa using hs) hm) fun e w' h => ?_
      obtain ⟨rfl, rfl⟩ := h
      exact ⟨rfl, RowKit.Below.refl _ _⟩
    · cases hq
  · cases hq
/-- strings.Trim: what is answered. -/
def qTrim (v : List DC) : Option (List DC) := match v with
  | [.s s, .s c] => if s.length ≤ 9223372036854775807 ∧ c.length < 4294967281 ∧ c.all (fun b => decide (b.toNat < 128)) = true then some [.s (Lib.trimS s c)] else none
  | _ => none
theorem call_Trim (v r : List DC) (w : World) (hq : qTrim v = some r) (hG : G.ok w) : Calls Tryz.prog 87 (lits [.s, .s] v 0).toArray w fun e w' => e = .returned (resVal (lits [.s] r 0)) ∧ RowKit.Below w.heap.size w w' := by
  unfold qTrim at hq
  split at hq
  · rename_i s c
    split at hq
    · rename_i hs
      obtain ⟨hs, hc, ha⟩ := hs
      injection hq with hq
      subst hq
      have h116 : (Tryz.prog.info? (Tryz.lays160_ren.t 116)).map (fun i => (i.zero, i.size)) = some (some (.agg (Array.replicate 256 (.bool false))), 256) := by kernel_rfl
      refine Calls.mono (Any.strings_Trim_ascii Tryz.lays160 (zero_of_info h116).1 (zero_of_info h116).2 ⟨s.toArray⟩ ⟨c.toArray⟩ w (by rw [Lib.size_eq]; simpa using hs) (by rw [Lib.size_eq]; simpa using hc) fun j b hj => of_decide_eq_true (List.all_eq_true.1 ha b (List.mem_of_getElem? hj))) fun e w' h => ?_
      obtain ⟨rfl, h⟩ := h
      exact ⟨rfl, h⟩
    · cases hq
  · cases hq
/-- internal/stringslite.IndexByte: what is answered. -/
def qIndexByte (v : List DC) : Option (List DC) := match v with
  | [.s s, .i c] => some [.i (Lib.indexByte s c.toNat.toUInt8)]
  | _ => none
theorem call_IndexByte (v r : List DC) (w : World) (hq : qIndexByte v = some r) (hG : G.ok w) : Calls Tryz.prog 137 (lits [.s, .i .u8] v 0).toArray w fun e w' => e = .returned (resVal (lits [.i .i64] r 0)) ∧ RowKit.Below w.heap.size w w' := by
  unfold qIndexByte at hq
  split at hq
  · rename_i s c
    injection hq with hq
    subst hq
    refine Calls.mono (Any.stringslite_IndexByte Tryz.lays217 ⟨s.toArray⟩ c w) fun e w' h => ?_
    obtain ⟨rfl, rfl⟩ := h
    exact ⟨rfl, RowKit.Below.refl _ _⟩
  · cases hq
end Go.Proofs.YtgmfpgbgknlojaaGreatDoorV

/- The tables and the notes (written by a program). -/
namespace Go.Proofs.YtgmfpgbgknlojaaGreatDoorV
open Go
set_option linter.unusedVariables false
set_option maxRecDepth 100000
noncomputable def tyL : List (Nat × TI) := [(3, ⟨.int .i64, [.i .i64], 8, [], false⟩),
  (4, ⟨.bool, [.b], 1, [], false⟩),
  (5, ⟨.int .u8, [.i .u8], 1, [], false⟩),
  (9, ⟨.str, [.s], 16, [], false⟩),
  (22, ⟨.slice 108, [.sl 108], 24, [], false⟩),
  (23, ⟨.slice 111, [.sl 111], 24, [], false⟩),
  (24, ⟨.slice 26, [.sl 26], 24, [], false⟩),
  (26, ⟨.struct, [.i .i64, .s, .s, .s, .sl 108, .sl 111, .sl 26], 128, [(0, 1, false), (1, 1, false), (2, 1, false), (3, 1, false), (4, 1, false), (5, 1, false), (6, 1, false)], false⟩),
  (29, ⟨.slice 114, [.sl 114], 24, [], false⟩),
  (30, ⟨.slice 117, [.sl 117], 24, [], false⟩),
  (31, ⟨.slice 33, [.sl 33], 24, [], false⟩),
  (33, ⟨.struct, [.i .i64, .s, .s, .s, .sl 114, .sl 117, .sl 33], 128, [(0, 1, false), (1, 1, false), (2, 1, false), (3, 1, false), (4, 1, false), (5, 1, false), (6, 1, false)], false⟩),
  (38, ⟨.struct, [.s, .s, .sl 111, .sl 26], 80, [(0, 1, false), (1, 1, false), (2, 1, false), (3, 1, false)], false⟩),
  (42, ⟨.struct, [.s, .s, .sl 117, .sl 33], 80, [(0, 1, false), (1, 1, false), (2, 1, false), (3, 1, false)], false⟩),
  (47, ⟨.struct, [.s, .s], 32, [(0, 1, false), (1, 1, false)], false⟩),
  (48, ⟨.slice 51, [.sl 51], 24, [], false⟩),
  (49, ⟨.slice 9, [.sl 9], 24, [], false⟩),
  (51, ⟨.struct, [.i .i64, .s, .sl 51, .sl 9], 72, [(0, 1, false), (1, 1, false), (2, 1, false), (3, 1, false)], false⟩),
  (53, ⟨.struct, [.s, .s, .s, .b, .i .i64, .s, .sl 51, .sl 9, .sl 111], 152, [(0, 1, false), (1, 2, true), (3, 1, false), (4, 4, true), (8, 1, false)], false⟩),
  (56, ⟨.struct, [.s, .s], 32, [(0, 1, false), (1, 1, false)], false⟩),
  (57, ⟨.slice 59, [.sl 59], 24, [], false⟩),
  (59, ⟨.struct, [.i .i64, .s, .sl 59, .sl 9], 72, [(0, 1, false), (1, 1, false), (2, 1, false), (3, 1, false)], false⟩),
  (61, ⟨.struct, [.s, .s, .s, .b, .i .i64, .s, .sl 59, .sl 9, .sl 117], 152, [(0, 1, false), (1, 2, true), (3, 1, false), (4, 4, true), (8, 1, false)], false⟩),
  (65, ⟨.slice 53, [.sl 53], 24, [], false⟩),
  (67, ⟨.struct, [.i .i64, .s, .sl 53, .sl 111, .sl 26], 96, [(0, 1, false), (1, 1, false), (2, 1, false), (3, 1, false), (4, 1, false)], false⟩),
  (70, ⟨.slice 61, [.sl 61], 24, [], false⟩),
  (72, ⟨.struct, [.i .i64, .s, .sl 61, .sl 117, .sl 33], 96, [(0, 1, false), (1, 1, false), (2, 1, false), (3, 1, false), (4, 1, false)], false⟩),
  (86, ⟨.struct, [.i .i64], 8, [(0, 1, false)], false⟩),
  (108, ⟨.struct, [.s, .i .i64, .s, .sl 51, .sl 9], 88, [(0, 1, false), (1, 4, true)], false⟩),
  (111, ⟨.struct, [.s, .sl 108], 40, [(0, 1, false), (1, 1, false)], false⟩),
  (114, ⟨.struct, [.s, .i .i64, .s, .sl 59, .sl 9], 88, [(0, 1, false), (1, 4, true)], false⟩),
  (117, ⟨.struct, [.s, .sl 114], 40, [(0, 1, false), (1, 1, false)], false⟩),
  (161, ⟨.slice 5, [.sl 5], 24, [], false⟩)]
noncomputable def h_laws_FnExactSelOk : Hint := ⟨[.agg [.i .i64, .s, .s, .s, .sl 108, .sl 111, .sl 26]], []⟩
noncomputable def h_laws_FnExactFragOk : Hint := ⟨[.agg [.s, .s, .sl 111, .sl 26]], []⟩
noncomputable def h_laws_FnExactVarDefOk : Hint := ⟨[.agg [.s, .s, .s, .b, .i .i64, .s, .sl 51, .sl 9, .sl 111]], []⟩
noncomputable def h_laws_FnExactOpOk : Hint := ⟨[.agg [.i .i64, .s, .sl 53, .sl 111, .sl 26]], []⟩
noncomputable def h_laws_szSel : Hint := ⟨[.agg [.i .i64, .s, .s, .s, .sl 108, .sl 111, .sl 26], .one (.i .i64)], []⟩
noncomputable def h_laws_toSel : Hint := ⟨[.agg [.i .i64, .s, .s, .s, .sl 108, .sl 111, .sl 26]], []⟩
noncomputable def h_spec_SelOk : Hint := ⟨[.agg [.i .i64, .s, .s, .s, .sl 114, .sl 117, .sl 33]], []⟩
noncomputable def h_impl_SelOk : Hint := ⟨[.agg [.i .i64, .s, .s, .s, .sl 114, .sl 117, .sl 33]], []⟩
noncomputable def h_laws_eqSel : Hint := ⟨[.agg [.i .i64, .s, .s, .s, .sl 114, .sl 117, .sl 33], .agg [.i .i64, .s, .s, .s, .sl 114, .sl 117, .sl 33]], []⟩
noncomputable def h_laws_szFrag : Hint := ⟨[.agg [.s, .s, .sl 111, .sl 26], .one (.i .i64)], []⟩
noncomputable def h_laws_toFrag : Hint := ⟨[.agg [.s, .s, .sl 111, .sl 26]], []⟩
noncomputable def h_spec_FragOk : Hint := ⟨[.agg [.s, .s, .sl 117, .sl 33]], []⟩
noncomputable def h_impl_FragOk : Hint := ⟨[.agg [.s, .s, .sl 117, .sl 33]], []⟩
noncomputable def h_laws_eqFrag : Hint := ⟨[.agg [.s, .s, .sl 117, .sl 33], .agg [.s, .s, .sl 117, .sl 33]], []⟩
noncomputable def h_laws_szVarDef : Hint := ⟨[.agg [.s, .s, .s, .b, .i .i64, .s, .sl 51, .sl 9, .sl 111], .one (.i .i64)], []⟩
noncomputable def h_laws_toVarDef : Hint := ⟨[.agg [.s, .s, .s, .b, .i .i64, .s, .sl 51, .sl 9, .sl 111]], []⟩
noncomputable def h_spec_VarDefOk : Hint := ⟨[.agg [.s, .s, .s, .b, .i .i64, .s, .sl 59, .sl 9, .sl 117]], []⟩
noncomputable def h_impl_VarDefOk : Hint := ⟨[.agg [.s, .s, .s, .b, .i .i64, .s, .sl 59, .sl 9, .sl 117]], []⟩
noncomputable def h_laws_eqVarDef : Hint := ⟨[.agg [.s, .s, .s, .b, .i .i64, .s, .sl 59, .sl 9, .sl 117], .agg [.s, .s, .s, .b, .i .i64, .s, .sl 59, .sl 9, .sl 117]], []⟩
noncomputable def h_laws_szOp : Hint := ⟨[.agg [.i .i64, .s, .sl 53, .sl 111, .sl 26], .one (.i .i64)], []⟩
noncomputable def h_laws_toOp : Hint := ⟨[.agg [.i .i64, .s, .sl 53, .sl 111, .sl 26]], []⟩
noncomputable def h_spec_OpOk : Hint := ⟨[.agg [.i .i64, .s, .sl 61, .sl 117, .sl 33]], []⟩
noncomputable def h_impl_OpOk : Hint := ⟨[.agg [.i .i64, .s, .sl 61, .sl 117, .sl 33]], []⟩
noncomputable def h_laws_eqOp : Hint := ⟨[.agg [.i .i64, .s, .sl 61, .sl 117, .sl 33], .agg [.i .i64, .s, .sl 61, .sl 117, .sl 33]], []⟩
noncomputable def h_laws_szArgS : Hint := ⟨[.one (.sl 108), .one (.i .i64)], []⟩
noncomputable def h_laws_szDirS : Hint := ⟨[.one (.sl 111), .one (.i .i64)], []⟩
noncomputable def h_laws_szSelS : Hint := ⟨[.one (.sl 26), .one (.i .i64)], []⟩
noncomputable def h_laws_toArgS : Hint := ⟨[.one (.sl 108)], []⟩
noncomputable def h_laws_toDirS : Hint := ⟨[.one (.sl 111)], []⟩
noncomputable def h_laws_toSelS : Hint := ⟨[.one (.sl 26)], []⟩
noncomputable def h_spec_l11Count : Hint := ⟨[.agg [.i .i64, .s, .s, .s, .sl 114, .sl 117, .sl 33], .one (.i .i64)], []⟩
noncomputable def h_spec_l11Right : Hint := ⟨[.agg [.i .i64, .s, .s, .s, .sl 114, .sl 117, .sl 33], .one (.i .i64)], []⟩
noncomputable def h_impl_bound_selOk : Hint := ⟨[.one (.ptr 0 0), .agg [.i .i64, .s, .s, .s, .sl 114, .sl 117, .sl 33], .one (.i .i64)], [.var 86 [.i .i64]]⟩
noncomputable def h_laws_eqArgS : Hint := ⟨[.one (.sl 114), .one (.sl 114)], []⟩
noncomputable def h_laws_eqDirS : Hint := ⟨[.one (.sl 117), .one (.sl 117)], []⟩
noncomputable def h_laws_eqSelS : Hint := ⟨[.one (.sl 33), .one (.sl 33)], []⟩
noncomputable def h_spec_NameOk : Hint := ⟨[.one .s], []⟩
noncomputable def h_spec_DirsOk : Hint := ⟨[.one (.sl 117)], []⟩
noncomputable def h_spec_l11Ok : Hint := ⟨[.one (.sl 33)], []⟩
noncomputable def h_impl_NameOk : Hint := ⟨[.one .s], []⟩
noncomputable def h_impl_DirsOk : Hint := ⟨[.one (.sl 117)], []⟩
noncomputable def h_impl_selsOk : Hint := ⟨[.one (.sl 33)], []⟩
noncomputable def h_laws_szType : Hint := ⟨[.agg [.s, .s], .one (.i .i64)], []⟩
noncomputable def h_laws_szValue : Hint := ⟨[.agg [.i .i64, .s, .sl 51, .sl 9], .one (.i .i64)], []⟩
noncomputable def h_laws_toType : Hint := ⟨[.agg [.s, .s]], []⟩
noncomputable def h_laws_toValue : Hint := ⟨[.agg [.i .i64, .s, .sl 51, .sl 9]], []⟩
noncomputable def h_spec_TypeOk : Hint := ⟨[.agg [.s, .s]], []⟩
noncomputable def h_spec_l12Default : Hint := ⟨[.one .b, .agg [.i .i64, .s, .sl 59, .sl 9]], []⟩
noncomputable def h_spec_l12Consts : Hint := ⟨[.one (.sl 117)], []⟩
noncomputable def h_impl_TypeOk : Hint := ⟨[.agg [.s, .s]], []⟩
noncomputable def h_impl_defaultOk : Hint := ⟨[.one .b, .agg [.i .i64, .s, .sl 59, .sl 9]], []⟩
noncomputable def h_impl_constDirs : Hint := ⟨[.one (.sl 117)], []⟩
noncomputable def h_laws_eqType : Hint := ⟨[.agg [.s, .s], .agg [.s, .s]], []⟩
noncomputable def h_laws_eqValue : Hint := ⟨[.agg [.i .i64, .s, .sl 59, .sl 9], .agg [.i .i64, .s, .sl 59, .sl 9]], []⟩
noncomputable def h_laws_szVarDefS : Hint := ⟨[.one (.sl 53), .one (.i .i64)], []⟩
noncomputable def h_laws_toVarDefS : Hint := ⟨[.one (.sl 53)], []⟩
noncomputable def h_spec_OpWord : Hint := ⟨[.one (.i .i64)], []⟩
noncomputable def h_impl_OpWord : Hint := ⟨[.one (.i .i64)], []⟩
noncomputable def h_slices_ContainsFunc_impl_VarDef__impl_OpOk_1 : Hint := ⟨[.one (.sl 61), .one (.fn 62 [])], []⟩
noncomputable def h_laws_eqVarDefS : Hint := ⟨[.one (.sl 61), .one (.sl 61)], []⟩
noncomputable def h_laws_szArg : Hint := ⟨[.agg [.s, .i .i64, .s, .sl 51, .sl 9], .one (.i .i64)], []⟩
noncomputable def h_laws_szDir : Hint := ⟨[.agg [.s, .sl 108], .one (.i .i64)], []⟩
noncomputable def h_laws_toArg : Hint := ⟨[.agg [.s, .i .i64, .s, .sl 51, .sl 9]], []⟩
noncomputable def h_laws_toDir : Hint := ⟨[.agg [.s, .sl 108]], []⟩
noncomputable def h_spec_l11Names : Hint := ⟨[.agg [.i .i64, .s, .s, .s, .sl 114, .sl 117, .sl 33]], []⟩
noncomputable def h_spec_ArgsOk : Hint := ⟨[.one (.sl 114)], []⟩
noncomputable def h_impl_ArgsOk : Hint := ⟨[.one (.sl 114)], []⟩
noncomputable def h_laws_eqArg : Hint := ⟨[.agg [.s, .i .i64, .s, .sl 59, .sl 9], .agg [.s, .i .i64, .s, .sl 59, .sl 9]], []⟩
noncomputable def h_laws_eqDir : Hint := ⟨[.agg [.s, .sl 114], .agg [.s, .sl 114]], []⟩
noncomputable def h_spec_l03Figure : Hint := ⟨[.one (.i .u8)], []⟩
noncomputable def h_spec_l03Letter : Hint := ⟨[.one (.i .u8)], []⟩
noncomputable def h_impl_in : Hint := ⟨[.one (.i .i64), .one (.i .i64), .one (.i .i64)], []⟩
noncomputable def h_impl_isFigure : Hint := ⟨[.one (.i .u8)], []⟩
noncomputable def h_impl_inName : Hint := ⟨[.one (.i .u8)], []⟩
noncomputable def h_slices_ContainsFunc_impl_Dir__impl_DirsOk_1 : Hint := ⟨[.one (.sl 117), .one (.fn 79 [])], []⟩
noncomputable def h_laws_szValueS : Hint := ⟨[.one (.sl 51), .one (.i .i64)], []⟩
noncomputable def h_laws_szStringS : Hint := ⟨[.one (.sl 9), .one (.i .i64)], []⟩
noncomputable def h_laws_toValueS : Hint := ⟨[.one (.sl 51)], []⟩
noncomputable def h_laws_toStringS : Hint := ⟨[.one (.sl 9)], []⟩
noncomputable def h_spec_ValueOk : Hint := ⟨[.agg [.i .i64, .s, .sl 59, .sl 9]], []⟩
noncomputable def h_spec_IsConst : Hint := ⟨[.agg [.i .i64, .s, .sl 59, .sl 9]], []⟩
noncomputable def h_spec_SameValue : Hint := ⟨[.agg [.i .i64, .s, .sl 59, .sl 9], .agg [.i .i64, .s, .sl 59, .sl 9]], []⟩
noncomputable def h_strings_Trim : Hint := ⟨[.one .s, .one .s], []⟩
noncomputable def h_strings_Contains : Hint := ⟨[.one .s, .one .s], []⟩
noncomputable def h_impl_emptyValue : Hint := ⟨[.agg [.i .i64, .s, .sl 59, .sl 9]], []⟩
noncomputable def h_impl_ValueOk : Hint := ⟨[.agg [.i .i64, .s, .sl 59, .sl 9]], []⟩
noncomputable def h_impl_IsConst : Hint := ⟨[.agg [.i .i64, .s, .sl 59, .sl 9]], []⟩
noncomputable def h_slices_ContainsFunc_impl_Dir__impl_constDirs_1 : Hint := ⟨[.one (.sl 117), .one (.fn 92 [])], []⟩
noncomputable def h_laws_eqValueS : Hint := ⟨[.one (.sl 59), .one (.sl 59)], []⟩
noncomputable def h_laws_eqStringS : Hint := ⟨[.one (.sl 9), .one (.sl 9)], []⟩
noncomputable def h_slices_IndexFunc_impl_VarDef__impl_OpOk_1 : Hint := ⟨[.one (.sl 61), .one (.fn 62 [])], []⟩
noncomputable def h_slices_ContainsFunc_impl_Arg__impl_ArgsOk_1 : Hint := ⟨[.one (.sl 114), .one (.fn 98 [])], []⟩
noncomputable def h_impl_isLetter : Hint := ⟨[.one (.i .u8)], []⟩
noncomputable def h_slices_IndexFunc_impl_Dir__impl_DirsOk_1 : Hint := ⟨[.one (.sl 117), .one (.fn 79 [])], []⟩
noncomputable def h_spec_l07Right : Hint := ⟨[.agg [.i .i64, .s, .sl 59, .sl 9], .one (.i .i64)], []⟩
noncomputable def h_spec_l07Const : Hint := ⟨[.agg [.i .i64, .s, .sl 59, .sl 9]], []⟩
noncomputable def h_impl_plain : Hint := ⟨[.agg [.i .i64, .s, .sl 59, .sl 9]], []⟩
noncomputable def h_impl_valueOk : Hint := ⟨[.agg [.i .i64, .s, .sl 59, .sl 9], .one (.i .i64)], []⟩
noncomputable def h_slices_ContainsFunc_impl_Value__impl_IsConst_1 : Hint := ⟨[.one (.sl 59), .one (.fn 114 [])], []⟩
noncomputable def h_slices_IndexFunc_impl_Dir__impl_constDirs_1 : Hint := ⟨[.one (.sl 117), .one (.fn 92 [])], []⟩
noncomputable def h_impl_OpOk_1 : Hint := ⟨[.agg [.s, .s, .s, .b, .i .i64, .s, .sl 59, .sl 9, .sl 117]], []⟩
noncomputable def h_slices_IndexFunc_impl_Arg__impl_ArgsOk_1 : Hint := ⟨[.one (.sl 114), .one (.fn 98 [])], []⟩
noncomputable def h_impl_DirsOk_1 : Hint := ⟨[.agg [.s, .sl 114]], []⟩
noncomputable def h_spec_l07One : Hint := ⟨[.agg [.i .i64, .s, .sl 59, .sl 9]], []⟩
noncomputable def h_impl_IntOk : Hint := ⟨[.one .s], []⟩
noncomputable def h_impl_FloatOk : Hint := ⟨[.one .s], []⟩
noncomputable def h_impl_Escaped : Hint := ⟨[.one .s], []⟩
noncomputable def h_impl_Word : Hint := ⟨[.one .s], []⟩
noncomputable def h_slices_ContainsFunc_string__impl_valueOk_1 : Hint := ⟨[.one (.sl 9), .one (.fn 127 [])], []⟩
noncomputable def h_slices_ContainsFunc_impl_Value__impl_valueOk_2 : Hint := ⟨[.one (.sl 59), .one (.fn 128 [0])], [.var 3 [.i .i64]]⟩
noncomputable def h_slices_IndexFunc_impl_Value__impl_IsConst_1 : Hint := ⟨[.one (.sl 59), .one (.fn 114 [])], []⟩
noncomputable def h_impl_constDirs_1 : Hint := ⟨[.agg [.s, .sl 114]], []⟩
noncomputable def h_impl_ArgsOk_1 : Hint := ⟨[.agg [.s, .i .i64, .s, .sl 59, .sl 9]], []⟩
noncomputable def h_spec_IntOk : Hint := ⟨[.one .s], []⟩
noncomputable def h_spec_FloatOk : Hint := ⟨[.one .s], []⟩
noncomputable def h_spec_Escaped : Hint := ⟨[.one .s], []⟩
noncomputable def h_spec_Word : Hint := ⟨[.one .s], []⟩
noncomputable def h_strings_TrimPrefix : Hint := ⟨[.one .s, .one .s], []⟩
noncomputable def h_impl_figures : Hint := ⟨[.one .s], []⟩
noncomputable def h_strings_IndexAny : Hint := ⟨[.one .s, .one .s], []⟩
noncomputable def h_strings_Cut : Hint := ⟨[.one .s, .one .s], []⟩
noncomputable def h_impl_TextOk : Hint := ⟨[.one .s], []⟩
noncomputable def h_strings_IndexByte : Hint := ⟨[.one .s, .one (.i .u8)], []⟩
noncomputable def h_slices_IndexFunc_string__impl_valueOk_1 : Hint := ⟨[.one (.sl 9), .one (.fn 127 [])], []⟩
noncomputable def h_slices_IndexFunc_impl_Value__impl_valueOk_2 : Hint := ⟨[.one (.sl 59), .one (.fn 128 [0])], [.var 3 [.i .i64]]⟩
noncomputable def h_impl_IsConst_1 : Hint := ⟨[.agg [.i .i64, .s, .sl 59, .sl 9]], []⟩
noncomputable def h_slices_ContainsFunc_impl_Arg__impl_constDirs_1_1 : Hint := ⟨[.one (.sl 114), .one (.fn 94 [])], []⟩
noncomputable def h_spec_l03Int : Hint := ⟨[.one .s], []⟩
noncomputable def h_spec_l03Run : Hint := ⟨[.one .s, .one (.i .i64)], []⟩
noncomputable def h_spec_TextOk : Hint := ⟨[.one .s], []⟩
noncomputable def h_spec_l04Hex4 : Hint := ⟨[.one (.i .i64)], []⟩
noncomputable def h_internal_stringslite_TrimPrefix : Hint := ⟨[.one .s, .one .s], []⟩
noncomputable def h_internal_stringslite_Cut : Hint := ⟨[.one .s, .one .s], []⟩
noncomputable def h_unicode_utf8_ValidString : Hint := ⟨[.one .s], []⟩
noncomputable def h_internal_stringslite_IndexByte : Hint := ⟨[.one .s, .one (.i .u8)], []⟩
noncomputable def h_impl_valueOk_1 : Hint := ⟨[.one .s], []⟩
noncomputable def h_impl_valueOk_2 : Hint := ⟨[.agg [.i .i64, .s, .sl 59, .sl 9], .one (.ptr 0 0)], [.var 3 [.i .i64]]⟩
noncomputable def h_slices_IndexFunc_impl_Arg__impl_constDirs_1_1 : Hint := ⟨[.one (.sl 114), .one (.fn 94 [])], []⟩
noncomputable def h_spec_RuneAt : Hint := ⟨[.one .s, .one (.i .i64)], []⟩
noncomputable def h_internal_stringslite_HasPrefix : Hint := ⟨[.one .s, .one .s], []⟩
noncomputable def h_impl_constDirs_1_1 : Hint := ⟨[.agg [.s, .i .i64, .s, .sl 59, .sl 9]], []⟩
noncomputable def h_spec_RuneText : Hint := ⟨[.one (.i .i64)], []⟩
noncomputable def h_spec_l02Scalar : Hint := ⟨[.one (.i .i64)], []⟩
noncomputable def h_spec_l01In : Hint := ⟨[.one (.i .i64), .one (.i .i64), .one (.i .i64)], []⟩
noncomputable def fi3 : FI := mkFI Tryz.f3 2 [.ag [.i .i64, .s, .s, .s, .sl 108, .sl 111, .sl 26]] [(false, [.ct .b])] (fun _ => (.s (.r [0, 0] none) (.s .n (.s .n (.s .n (.s .n (.s (.r [0, 0, 1, 0] none) .n)))))))
noncomputable def fi4 : FI := mkFI Tryz.f4 2 [.ag [.s, .s, .sl 111, .sl 26]] [(false, [.ct .b])] (fun _ => (.s (.r [0, 0] none) (.s .n (.s .n (.s .n (.s .n (.s (.r [0, 0, 1, 0] none) .n)))))))
noncomputable def fi5 : FI := mkFI Tryz.f5 2 [.ag [.s, .s, .s, .b, .i .i64, .s, .sl 51, .sl 9, .sl 111]] [(false, [.ct .b])] (fun _ => (.s (.r [0, 0] none) (.s .n (.s .n (.s .n (.s .n (.s (.r [0, 0, 1, 0] none) .n)))))))
noncomputable def fi6 : FI := mkFI Tryz.f6 2 [.ag [.i .i64, .s, .sl 53, .sl 111, .sl 26]] [(false, [.ct .b])] (fun _ => (.s (.r [0, 0] none) (.s .n (.s .n (.s .n (.s .n (.s (.r [0, 0, 1, 0] none) .n)))))))
noncomputable def fi7 : FI := mkFI Tryz.f7 1 [.ag [.i .i64, .s, .s, .s, .sl 108, .sl 111, .sl 26], .ct (.i .i64)] [(false, [.ct (.i .i64)])] (fun _ => (.s (.r [0, 0] none) .n))
noncomputable def fi9 : FI := mkFI Tryz.f9 3 [.ag [.i .i64, .s, .s, .s, .sl 108, .sl 111, .sl 26]] [(true, [.ct (.i .i64), .ct .s, .ct .s, .ct .s, .ct (.sl 114), .ct (.sl 117), .ct (.sl 33)])] (fun _ => (.s (.r [0, 1] none) (.s (.r [2] none) .n)))
noncomputable def fi8 : FI := mkFI Tryz.f8 1 [.ag [.i .i64, .s, .s, .s, .sl 114, .sl 117, .sl 33]] [(false, [.ct .b])] (fun _ => (.s (.r [0, 0] none) (.s (.r [] (some ⟨[.one .u, .one .u, .one .b, .one .u, .one .u, .one .u, .one .u, .one .u, .one .u, .one .u], [.u]⟩)) .n)))
noncomputable def fi10 : FI := mkFI Tryz.f10 2 [.ag [.i .i64, .s, .s, .s, .sl 114, .sl 117, .sl 33]] [(false, [.ct .b])] (fun _ => (.s (.r [0, 0] none) (.s (.r [0, 1, 0] none) .n)))
noncomputable def fi11 : FI := mkFI Tryz.f11 2 [.ag [.i .i64, .s, .s, .s, .sl 114, .sl 117, .sl 33], .ag [.i .i64, .s, .s, .s, .sl 114, .sl 117, .sl 33]] [(false, [.ct .b])] (fun _ => (.s (.r [0, 1, 0] none) .n))
noncomputable def fi12 : FI := mkFI Tryz.f12 1 [.ag [.s, .s, .sl 111, .sl 26], .ct (.i .i64)] [(false, [.ct (.i .i64)])] (fun _ => (.s (.r [0, 0] none) .n))
noncomputable def fi14 : FI := mkFI Tryz.f14 3 [.ag [.s, .s, .sl 111, .sl 26]] [(true, [.ct .s, .ct .s, .ct (.sl 117), .ct (.sl 33)])] (fun _ => (.s (.r [0, 1] none) (.s (.r [2] none) .n)))
noncomputable def fi13 : FI := mkFI Tryz.f13 1 [.ag [.s, .s, .sl 117, .sl 33]] [(false, [.ct .b])] (fun _ => (.s (.r [0, 0] none) (.s (.r [] (some ⟨[.one .u, .one .u, .one .b, .one .u, .one .u, .one .u, .one .u, .one .u, .one .u, .one .u, .one .u, .one .u, .one .u, .one .u, .one .u, .one .u, .one .u, .one .u, .one .u, .one .u, .one .u, .one .u, .one .u, .one .u, .one .u, .one .u, .one .u, .one .u, .one .u, .one .u, .one .u, .one .u], [.u]⟩)) .n)))
noncomputable def fi15 : FI := mkFI Tryz.f15 1 [.ag [.s, .s, .sl 117, .sl 33]] [(false, [.ct .b])] (fun _ => (.s (.r [0, 0] none) (.s (.r [] (some ⟨[.one .u, .one .u, .one .b, .one .u, .one .u, .one .u, .one .u, .one .u, .one .u, .one .u, .one .u, .one .u, .one .u, .one .u, .one .u, .one .u, .one .u, .one .u, .one .u, .one .u, .one .u, .one .u, .one .u, .one .u, .one .u, .one .u], [.u]⟩)) .n)))
noncomputable def fi16 : FI := mkFI Tryz.f16 2 [.ag [.s, .s, .sl 117, .sl 33], .ag [.s, .s, .sl 117, .sl 33]] [(false, [.ct .b])] (fun _ => (.s (.r [0, 1, 0] none) .n))
noncomputable def fi17 : FI := mkFI Tryz.f17 1 [.ag [.s, .s, .s, .b, .i .i64, .s, .sl 51, .sl 9, .sl 111], .ct (.i .i64)] [(false, [.ct (.i .i64)])] (fun _ => (.s (.r [0, 0] none) .n))
noncomputable def fi19 : FI := mkFI Tryz.f19 3 [.ag [.s, .s, .s, .b, .i .i64, .s, .sl 51, .sl 9, .sl 111]] [(true, [.ct .s, .ct .s, .ct .s, .ct .b, .ct (.i .i64), .ct .s, .ct (.sl 59), .ct (.sl 9), .ct (.sl 117)])] (fun _ => (.s (.r [0, 1] none) (.s (.r [2] none) .n)))
noncomputable def fi18 : FI := mkFI Tryz.f18 1 [.ag [.s, .s, .s, .b, .i .i64, .s, .sl 59, .sl 9, .sl 117]] [(false, [.ct .b])] (fun _ => (.s (.r [0, 0] none) (.s (.r [] (some ⟨[.one .u, .one .u, .one .b, .one .u, .one .u, .one .u, .one .u, .one .u, .one .u, .one .u, .one .u, .one .u, .one .u, .one .u, .one .u, .one .u, .one .u, .one .u, .one .u, .one .u, .one .u, .one .u, .one .u], [.u]⟩)) .n)))
noncomputable def fi20 : FI := mkFI Tryz.f20 1 [.ag [.s, .s, .s, .b, .i .i64, .s, .sl 59, .sl 9, .sl 117]] [(false, [.ct .b])] (fun _ => (.s (.r [0, 0] none) (.s (.r [] (some ⟨[.one .u, .one .u, .one .b, .one .u, .one .u, .one .u, .one .u, .one .u, .one .u, .one .u, .one .u, .one .u, .one .u, .one .u, .one .u, .one .u, .one .u, .one .u, .one .u, .one .u, .one .u, .one .u, .one .u], [.u]⟩)) .n)))
noncomputable def fi21 : FI := mkFI Tryz.f21 2 [.ag [.s, .s, .s, .b, .i .i64, .s, .sl 59, .sl 9, .sl 117], .ag [.s, .s, .s, .b, .i .i64, .s, .sl 59, .sl 9, .sl 117]] [(false, [.ct .b])] (fun _ => (.s (.r [0, 1, 0] none) .n))
noncomputable def fi22 : FI := mkFI Tryz.f22 1 [.ag [.i .i64, .s, .sl 53, .sl 111, .sl 26], .ct (.i .i64)] [(false, [.ct (.i .i64)])] (fun _ => (.s (.r [0, 0] none) .n))
noncomputable def fi24 : FI := mkFI Tryz.f24 3 [.ag [.i .i64, .s, .sl 53, .sl 111, .sl 26]] [(true, [.ct (.i .i64), .ct .s, .ct (.sl 61), .ct (.sl 117), .ct (.sl 33)])] (fun _ => (.s (.r [0, 1] none) (.s (.r [2] none) .n)))
noncomputable def fi23 : FI := mkFI Tryz.f23 1 [.ag [.i .i64, .s, .sl 61, .sl 117, .sl 33]] [(false, [.ct .b])] (fun _ => (.s (.r [0, 0] none) (.s (.s (.r [] (some ⟨[.one .u, .one (.ptr 0 0), .one .u, .one .u, .one .u, .one .u, .one .u, .one .u, .one .u, .one .u, .one .u, .one .u, .one .u, .one .u, .one .u, .one .u, .one .u, .one .u, .one .u, .one .u, .one .u, .one .u, .one .u, .one .u, .one .u, .one .u, .one .u, .one .u, .one .u, .one .u, .one .b, .one .u, .one .u, .one .u, .one .u, .one .u, .one .u, .one .u, .one .u, .one .u, .one .u, .one .u, .one .u, .one .u, .one .u, .one .u, .one .u, .one .u], [.var 72 [.i .i64, .s, .sl 61, .sl 117, .sl 33]]⟩)) .n) (.s (.s .n (.b (.b (.s .n (.s (.b .n ⟨[.one .u, .one (.ptr 0 0), .one .u, .one (.i .i64), .one .u, .one .u, .one .u, .one .u, .one .u, .one .u, .one .u, .one .u, .one .u, .one .u, .one .u, .one .u, .one .u, .one .u, .one .u, .one .u, .one .u, .one .u, .one .u, .one .u, .one .u, .one .u, .one .u, .one .u, .one .u, .one .u, .one .u, .one .u, .one .u, .one .u, .one .u, .one .u, .one .u, .one .u, .one .u, .one .u, .one .u, .one .u, .one .u, .one .u, .one .u, .one .u, .one .u, .one .u], [.var 72 [.i .i64, .s, .sl 61, .sl 117, .sl 33]]⟩) .n)) ⟨[.one .u, .one (.ptr 0 0), .one .u, .one (.i .i64), .one .u, .one .u, .one .u, .one .u, .one .u, .one .u, .one .u, .one .u, .one .u, .one .u, .one .u, .one .u, .one .u, .one .u, .one .u, .one .u, .one .u, .one .u, .one .u, .one .u, .one .u, .one .u, .one .u, .one .u, .one .u, .one .u, .one .u, .one .u, .one .u, .one .u, .one .u, .one .u, .one .u, .one .u, .one .u, .one .u, .one .u, .one .u, .one .u, .one .u, .one .u, .one .u, .one .u, .one .u], [.var 72 [.i .i64, .s, .sl 61, .sl 117, .sl 33]]⟩) ⟨[.one .u, .one (.ptr 0 0), .one .u, .one .u, .one .u, .one .u, .one .u, .one .u, .one .u, .one .u, .one .u, .one .u, .one .u, .one .u, .one .u, .one .u, .one .u, .one .u, .one .u, .one .u, .one .u, .one .u, .one .u, .one .u, .one .u, .one .u, .one .u, .one .u, .one .u, .one .u, .one .u, .one .u, .one .u, .one .u, .one .u, .one .u, .one .u, .one .u, .one .u, .one .u, .one .u, .one .u, .one .u, .one .u, .one .u, .one .u, .one .u, .one .u], [.var 72 [.i .i64, .s, .sl 61, .sl 117, .sl 33]]⟩)) .n))))
noncomputable def fi25 : FI := mkFI Tryz.f25 1 [.ag [.i .i64, .s, .sl 61, .sl 117, .sl 33]] [(false, [.ct .b])] (fun _ => (.s (.r [0, 0] none) (.s (.r [] (some ⟨[.one .u, .one .u, .one .b, .one .u, .one .u, .one .u, .one .u, .one .u, .one .u, .one .u, .one .u, .one .u, .one .u, .one .u, .one .u, .one .u, .one .u, .one .u, .one .u, .one .u, .one .u, .one .u, .one .u, .one .u, .one .u, .one .u, .one .u, .one .u, .one .u, .one .u, .one .u, .one .u, .one .u], [.u]⟩)) .n)))
noncomputable def fi26 : FI := mkFI Tryz.f26 2 [.ag [.i .i64, .s, .sl 61, .sl 117, .sl 33], .ag [.i .i64, .s, .sl 61, .sl 117, .sl 33]] [(false, [.ct .b])] (fun _ => (.s (.r [0, 1, 0] none) .n))
noncomputable def fi27 : FI := mkFI Tryz.f27 0 [.ct (.sl 108), .ct (.i .i64)] [(false, [.ct (.i .i64)])] (fun _ => (.s .n (.s .n (.s .n (.s (.s .n (.b (.b (.s .n (.s (.b .n ⟨[.one (.sl 108), .one (.i .i64), .one .u, .one .u, .one .u, .one (.i .i64), .one .u, .one .u, .one .u, .one .u, .one .u, .one .u, .one .u, .one .u, .one .u, .one .u, .one .u, .one .u, .one .u, .one .u, .one .u, .one .u, .one .u, .one .u, .one .u, .one .u, .one .u], []⟩) .n)) ⟨[.one (.sl 108), .one (.i .i64), .one .u, .one .u, .one .u, .one (.i .i64), .one .u, .one .u, .one .u, .one .u, .one .u, .one .u, .one .u, .one .u, .one .u, .one .u, .one .u, .one .u, .one .u, .one .u, .one .u, .one .u, .one .u, .one .u, .one .u, .one .u, .one .u], []⟩) ⟨[.one .u, .one (.i .i64), .one .u, .one .u, .one .u, .one .u, .one .u, .one .u, .one .u, .one .u, .one .u, .one .u, .one .u, .one .u, .one .u, .one .u, .one .u, .one .u, .one .u, .one .u, .one .u, .one .u, .one .u, .one .u, .one .u, .one .u, .one .u], []⟩)) .n)))))
noncomputable def fi28 : FI := mkFI Tryz.f28 0 [.ct (.sl 111), .ct (.i .i64)] [(false, [.ct (.i .i64)])] (fun _ => (.s .n (.s .n (.s .n (.s (.s .n (.b (.b (.s .n (.s (.b .n ⟨[.one (.sl 111), .one (.i .i64), .one .u, .one .u, .one .u, .one (.i .i64), .one .u, .one .u, .one .u, .one .u, .one .u, .one .u, .one .u, .one .u, .one .u, .one .u, .one .u, .one .u, .one .u, .one .u, .one .u, .one .u, .one .u, .one .u, .one .u, .one .u, .one .u], []⟩) .n)) ⟨[.one (.sl 111), .one (.i .i64), .one .u, .one .u, .one .u, .one (.i .i64), .one .u, .one .u, .one .u, .one .u, .one .u, .one .u, .one .u, .one .u, .one .u, .one .u, .one .u, .one .u, .one .u, .one .u, .one .u, .one .u, .one .u, .one .u, .one .u, .one .u, .one .u], []⟩) ⟨[.one .u, .one (.i .i64), .one .u, .one .u, .one .u, .one .u, .one .u, .one .u, .one .u, .one .u, .one .u, .one .u, .one .u, .one .u, .one .u, .one .u, .one .u, .one .u, .one .u, .one .u, .one .u, .one .u, .one .u, .one .u, .one .u, .one .u, .one .u], []⟩)) .n)))))
noncomputable def fi29 : FI := mkFI Tryz.f29 0 [.ct (.sl 26), .ct (.i .i64)] [(false, [.ct (.i .i64)])] (fun _ => (.s .n (.s .n (.s .n (.s (.s .n (.b (.b (.s .n (.s (.b .n ⟨[.one (.sl 26), .one (.i .i64), .one .u, .one .u, .one .u, .one (.i .i64), .one .u, .one .u, .one .u, .one .u, .one .u, .one .u, .one .u, .one .u, .one .u, .one .u, .one .u, .one .u, .one .u, .one .u, .one .u, .one .u, .one .u, .one .u, .one .u, .one .u, .one .u], []⟩) .n)) ⟨[.one (.sl 26), .one (.i .i64), .one .u, .one .u, .one .u, .one (.i .i64), .one .u, .one .u, .one .u, .one .u, .one .u, .one .u, .one .u, .one .u, .one .u, .one .u, .one .u, .one .u, .one .u, .one .u, .one .u, .one .u, .one .u, .one .u, .one .u, .one .u, .one .u], []⟩) ⟨[.one .u, .one (.i .i64), .one .u, .one .u, .one .u, .one .u, .one .u, .one .u, .one .u, .one .u, .one .u, .one .u, .one .u, .one .u, .one .u, .one .u, .one .u, .one .u, .one .u, .one .u, .one .u, .one .u, .one .u, .one .u, .one .u, .one .u, .one .u], []⟩)) .n)))))
noncomputable def fi32 : FI := mkFI Tryz.f32 4 [.ct (.sl 108)] [(false, [.ct (.sl 114)])] (fun _ => (.s .n (.s (.r [0, 0, 0, 0] none) (.s (.s .n (.b (.b (.s .n (.s (.b .n ⟨[.one (.sl 108), .one .u, .one .u, .one (.own 114 2), .one (.i .i64), .one .u, .one .u, .one .u, .one .u, .one .u, .one .u, .one .u, .one .u, .one .u, .one .u, .one .u, .one .u, .one .u, .one .u, .one .u, .one .u, .one .u, .one .u], [.u, .u, .u, .u]⟩) .n)) ⟨[.one (.sl 108), .one .u, .one .u, .one (.own 114 1), .one (.i .i64), .one .u, .one .u, .one .u, .one .u, .one .u, .one .u, .one .u, .one .u, .one .u, .one .u, .one .u, .one .u, .one .u, .one .u, .one .u, .one .u, .one .u, .one .u], [.u, .u, .u, .u]⟩) ⟨[.one .u, .one .u, .one .u, .one (.own 114 3), .one .u, .one .u, .one .u, .one .u, .one .u, .one .u, .one .u, .one .u, .one .u, .one .u, .one .u, .one .u, .one .u, .one .u, .one .u, .one .u, .one .u, .one .u, .one .u], [.u, .u, .u, .u]⟩)) .n))))
noncomputable def fi33 : FI := mkFI Tryz.f33 4 [.ct (.sl 111)] [(false, [.ct (.sl 117)])] (fun _ => (.s .n (.s (.r [0, 0, 0, 0] none) (.s (.s .n (.b (.b (.s .n (.s (.b .n ⟨[.one (.sl 111), .one .u, .one .u, .one (.own 117 2), .one (.i .i64), .one .u, .one .u, .one .u, .one .u, .one .u, .one .u, .one .u, .one .u, .one .u, .one .u, .one .u, .one .u, .one .u, .one .u, .one .u, .one .u, .one .u, .one .u], [.u, .u, .u, .u]⟩) .n)) ⟨[.one (.sl 111), .one .u, .one .u, .one (.own 117 1), .one (.i .i64), .one .u, .one .u, .one .u, .one .u, .one .u, .one .u, .one .u, .one .u, .one .u, .one .u, .one .u, .one .u, .one .u, .one .u, .one .u, .one .u, .one .u, .one .u], [.u, .u, .u, .u]⟩) ⟨[.one .u, .one .u, .one .u, .one (.own 117 3), .one .u, .one .u, .one .u, .one .u, .one .u, .one .u, .one .u, .one .u, .one .u, .one .u, .one .u, .one .u, .one .u, .one .u, .one .u, .one .u, .one .u, .one .u, .one .u], [.u, .u, .u, .u]⟩)) .n))))
noncomputable def fi34 : FI := mkFI Tryz.f34 4 [.ct (.sl 26)] [(false, [.ct (.sl 33)])] (fun _ => (.s .n (.s (.r [0, 0, 0, 0] none) (.s (.s .n (.b (.b (.s .n (.s (.b .n ⟨[.one (.sl 26), .one .u, .one .u, .one (.own 33 2), .one (.i .i64), .one .u, .one .u, .one .u, .one .u, .one .u, .one .u, .one .u, .one .u, .one .u, .one .u, .one .u, .one .u, .one .u, .one .u, .one .u, .one .u, .one .u, .one .u], [.u, .u, .u, .u]⟩) .n)) ⟨[.one (.sl 26), .one .u, .one .u, .one (.own 33 1), .one (.i .i64), .one .u, .one .u, .one .u, .one .u, .one .u, .one .u, .one .u, .one .u, .one .u, .one .u, .one .u, .one .u, .one .u, .one .u, .one .u, .one .u, .one .u, .one .u], [.u, .u, .u, .u]⟩) ⟨[.one .u, .one .u, .one .u, .one (.own 33 3), .one .u, .one .u, .one .u, .one .u, .one .u, .one .u, .one .u, .one .u, .one .u, .one .u, .one .u, .one .u, .one .u, .one .u, .one .u, .one .u, .one .u, .one .u, .one .u], [.u, .u, .u, .u]⟩)) .n))))
noncomputable def fi30 : FI := mkFI Tryz.f30 1 [.ag [.i .i64, .s, .s, .s, .sl 114, .sl 117, .sl 33], .ct (.i .i64)] [(false, [.ct (.i .i64)])] (fun _ => (.s (.r [0, 0] none) (.s .n (.s (.s .n (.b (.b (.s (.s (.r [] (some ⟨[.one .u, .one (.i .i64), .one (.ptr 0 0), .one .u, .one .u, .one (.i .i64), .one .u, .one .u, .one .u, .one .u, .one .u, .one .u, .one .u, .one .u, .one .u, .one .u, .one .b, .one .u, .one .u, .one .u, .one .u, .one .u, .one .u, .one .u, .one .u, .one .u, .one .u], [.var 33 [.i .i64, .s, .s, .s, .sl 114, .sl 117, .sl 33]]⟩)) .n) (.s (.b .n ⟨[.one .u, .one (.i .i64), .one (.ptr 0 0), .one .u, .one .u, .one (.i .i64), .one .u, .one .u, .one .u, .one .u, .one .u, .one .u, .one .u, .one .u, .one .u, .one .u, .one .u, .one .u, .one .u, .one .u, .one .u, .one .u, .one .u, .one .u, .one .u, .one .u, .one .u], [.var 33 [.i .i64, .s, .s, .s, .sl 114, .sl 117, .sl 33]]⟩) .n)) ⟨[.one .u, .one (.i .i64), .one (.ptr 0 0), .one .u, .one .u, .one (.i .i64), .one .u, .one .u, .one .u, .one .u, .one .u, .one .u, .one .u, .one .u, .one .u, .one .u, .one .u, .one .u, .one .u, .one .u, .one .u, .one .u, .one .u, .one .u, .one .u, .one .u, .one .u], [.var 33 [.i .i64, .s, .s, .s, .sl 114, .sl 117, .sl 33]]⟩) ⟨[.one .u, .one (.i .i64), .one .u, .one .u, .one .u, .one .u, .one .u, .one .u, .one .u, .one .u, .one .u, .one .u, .one .u, .one .u, .one .u, .one .u, .one .u, .one .u, .one .u, .one .u, .one .u, .one .u, .one .u, .one .u, .one .u, .one .u, .one .u], [.u]⟩)) .n))))
noncomputable def fi31 : FI := mkFI Tryz.f31 1 [.ag [.i .i64, .s, .s, .s, .sl 114, .sl 117, .sl 33], .ct (.i .i64)] [(false, [.ct .b])] (fun _ => (.s (.r [0, 0] none) (.s (.s (.r [] (some ⟨[.one .u, .one (.i .i64), .one (.ptr 0 0), .one .u, .one .u, .one .u, .one .u, .one .u, .one .u, .one .u, .one .u, .one .u, .one .u, .one .u, .one .u, .one .u, .one .u, .one .u, .one .u, .one .u, .one .u, .one .u, .one .u, .one .u, .one .b, .one .u, .one .u, .one .u, .one .u, .one .u, .one .u, .one .u, .one .u, .one .u, .one .u, .one .u, .one .u, .one .u, .one .u, .one .u, .one .u], [.var 33 [.i .i64, .s, .s, .s, .sl 114, .sl 117, .sl 33]]⟩)) .n) (.s (.s .n (.b (.b (.s .n (.s (.b .n ⟨[.one .u, .one (.i .i64), .one (.ptr 0 0), .one .u, .one .u, .one (.i .i64), .one .u, .one .u, .one .u, .one .u, .one .u, .one .u, .one .u, .one .u, .one .u, .one .u, .one .u, .one .u, .one .u, .one .u, .one .u, .one .u, .one .u, .one .u, .one .u, .one .u, .one .u, .one .u, .one .u, .one .u, .one .u, .one .u, .one .u, .one .u, .one .u, .one .u, .one .u, .one .u, .one .u, .one .u, .one .u], [.var 33 [.i .i64, .s, .s, .s, .sl 114, .sl 117, .sl 33]]⟩) .n)) ⟨[.one .u, .one (.i .i64), .one (.ptr 0 0), .one .u, .one .u, .one (.i .i64), .one .u, .one .u, .one .u, .one .u, .one .u, .one .u, .one .u, .one .u, .one .u, .one .u, .one .u, .one .u, .one .u, .one .u, .one .u, .one .u, .one .u, .one .u, .one .u, .one .u, .one .u, .one .u, .one .u, .one .u, .one .u, .one .u, .one .u, .one .u, .one .u, .one .u, .one .u, .one .u, .one .u, .one .u, .one .u], [.var 33 [.i .i64, .s, .s, .s, .sl 114, .sl 117, .sl 33]]⟩) ⟨[.one .u, .one .u, .one .u, .one .u, .one .u, .one .u, .one .u, .one .u, .one .u, .one .u, .one .u, .one .u, .one .u, .one .u, .one .u, .one .u, .one .u, .one .u, .one .u, .one .u, .one .u, .one .u, .one .u, .one .u, .one .u, .one .u, .one .u, .one .u, .one .u, .one .u, .one .u, .one .u, .one .u, .one .u, .one .u, .one .u, .one .u, .one .u, .one .u, .one .u, .one .u], [.u]⟩)) .n))))
noncomputable def fi35 : FI := mkFI Tryz.f35 3 [.ptr, .ag [.i .i64, .s, .s, .s, .sl 114, .sl 117, .sl 33], .ct (.i .i64)] [(false, [.ct .b])] (fun _ => (.s (.r [1, 0] none) (.s .n (.s (.s (.r [] (some ⟨[.one (.ptr 0 0), .one .u, .one (.i .i64), .one .u, .one (.ptr 1 0), .one .u, .one .u, .one .u, .one .u, .one .u, .one .u, .one .u, .one .u, .one .u, .one .u, .one .u, .one .u, .one .u, .one .u, .one .u, .one .u, .one .u, .one .u, .one .u, .one .u, .one .u, .one .u, .one .u, .one .u, .one .u, .one .u, .one .b, .one .u, .one .u, .one .u, .one .u, .one .u, .one .u, .one .u, .one .u, .one .u, .one .u, .one .u, .one .u, .one .u, .one .u, .one .u, .one .u, .one .u, .one .u, .one .u, .one .u, .one .u, .one .u, .one .u, .one .u, .one .u, .one .u, .one .u, .one .u, .one .u, .one .u, .one .u, .one .u, .one .u, .one .u, .one .u, .one .u, .one .u, .one .u, .one .u, .one .u, .one .u, .one .u, .one .u, .one .u, .one .u, .one .u, .one .u, .one .u, .one .u, .one .u, .one .u, .one .u, .one .u, .one .u, .one .u, .one .u, .one .u, .one .u, .one .u, .one .u, .one .u, .one .u, .one .u, .one .u, .one .u, .one .u, .one .u, .one .u, .one .u, .one .u, .one .u, .one .u, .one .u, .one .u, .one .u, .one .u, .one .u, .one .u, .one .u, .one .u, .one .u, .one .u, .one .u, .one .u, .one .u, .one .u, .one .u, .one .u, .one .u, .one .u, .one .u, .one .u, .one .u, .one .u, .one .u, .one .u, .one .u, .one .u, .one .u, .one .u, .one .u, .one .u, .one .u, .one .u, .one .u, .one .u, .one .u], [.var 86 [.i .i64], .var 33 [.i .i64, .s, .s, .s, .sl 114, .sl 117, .sl 33], .u]⟩)) .n) (.s .n (.s (.s .n (.b (.s .n (.c (.r [] (some ⟨[.one (.ptr 0 0), .one .u, .one (.i .i64), .one .u, .one (.ptr 1 0), .one .u, .one .u, .one .b, .one .u, .one .u, .one .u, .one .u, .one .u, .one .u, .one .u, .one .u, .one .u, .one .u, .one .u, .one .u, .one .u, .one .u, .one .u, .one .u, .one .u, .one .u, .one .u, .one .u, .one .u, .one .u, .one .u, .one .u, .one .u, .one .u, .one .u, .one .u, .one .u, .one .u, .one .u, .one .u, .one .u, .one .u, .one .u, .one .u, .one .u, .one .u, .one .u, .one .u, .one .u, .one .u, .one .u, .one .u, .one .u, .one .u, .one .u, .one .u, .one .u, .one .u, .one .u, .one .u, .one .u, .one .u, .one .u, .one .u, .one .u, .one .u, .one .u, .one .u, .one .u, .one .u, .one .u, .one .u, .one .u, .one .u, .one .u, .one .u, .one .u, .one .u, .one .u, .one .u, .one .u, .one .u, .one .u, .one .u, .one .u, .one .u, .one .u, .one .u, .one .u, .one .u, .one .u, .one .u, .one .u, .one .u, .one .u, .one .u, .one .u, .one .u, .one .u, .one .u, .one .u, .one .u, .one .u, .one .u, .one .u, .one .u, .one .u, .one .u, .one .u, .one .u, .one .u, .one .u, .one .u, .one .u, .one .u, .one .u, .one .u, .one .u, .one .u, .one .u, .one .u, .one .u, .one .u, .one .u, .one .u, .one .u, .one .u, .one .u, .one .u, .one .u, .one .u, .one .u, .one .u, .one .u, .one .u, .one .u, .one .u, .one .u, .one .u], [.var 86 [.i .i64], .var 33 [.i .i64, .s, .s, .s, .sl 114, .sl 117, .sl 33], .u]⟩)) (.s .n (.c (.r [] (some ⟨[.one (.ptr 0 0), .one .u, .one (.i .i64), .one .u, .one (.ptr 1 0), .one .u, .one .u, .one .b, .one .u, .one .u, .one .u, .one .u, .one .u, .one .u, .one .u, .one .u, .one .u, .one .u, .one .u, .one .u, .one .u, .one .u, .one .u, .one .u, .one .u, .one .u, .one .u, .one .u, .one .u, .one .u, .one .u, .one .u, .one .u, .one .u, .one .u, .one .u, .one .u, .one .u, .one .u, .one .u, .one .u, .one .u, .one .u, .one .u, .one .u, .one .u, .one .u, .one .u, .one .u, .one .u, .one .u, .one .u, .one .u, .one .u, .one .u, .one .u, .one .u, .one .u, .one .u, .one .u, .one .u, .one .u, .one .u, .one .u, .one .u, .one .u, .one .u, .one .u, .one .u, .one .u, .one .u, .one .u, .one .u, .one .u, .one .u, .one .u, .one .u, .one .u, .one .u, .one .u, .one .u, .one .u, .one .u, .one .u, .one .u, .one .u, .one .u, .one .u, .one .u, .one .u, .one .u, .one .u, .one .u, .one .u, .one .u, .one .u, .one .u, .one .u, .one .u, .one .u, .one .u, .one .u, .one .u, .one .u, .one .u, .one .u, .one .u, .one .u, .one .u, .one .u, .one .u, .one .u, .one .u, .one .u, .one .u, .one .u, .one .u, .one .u, .one .u, .one .u, .one .u, .one .u, .one .u, .one .u, .one .u, .one .u, .one .u, .one .u, .one .u, .one .u, .one .u, .one .u, .one .u, .one .u, .one .u, .one .u, .one .u, .one .u, .one .u], [.var 86 [.i .i64], .var 33 [.i .i64, .s, .s, .s, .sl 114, .sl 117, .sl 33], .u]⟩)) (.s .n (.c (.r [] (some ⟨[.one (.ptr 0 0), .one .u, .one (.i .i64), .one .u, .one (.ptr 1 0), .one .u, .one .u, .one .b, .one .u, .one .u, .one .u, .one .u, .one .u, .one .u, .one .u, .one .u, .one .u, .one .u, .one .u, .one .u, .one .u, .one .u, .one .u, .one .u, .one .u, .one .u, .one .u, .one .u, .one .u, .one .u, .one .u, .one .u, .one .u, .one .u, .one .u, .one .u, .one .u, .one .u, .one .u, .one .u, .one .u, .one .u, .one .u, .one .u, .one .u, .one .u, .one .u, .one .u, .one .u, .one .u, .one .u, .one .u, .one .u, .one .u, .one .u, .one .u, .one .u, .one .u, .one .u, .one .u, .one .u, .one .u, .one .u, .one .u, .one .u, .one .u, .one .u, .one .u, .one .u, .one .u, .one .u, .one .u, .one .u, .one .u, .one .u, .one .u, .one .u, .one .u, .one .u, .one .u, .one .u, .one .u, .one .u, .one .u, .one .u, .one .u, .one .u, .one .u, .one .u, .one .u, .one .u, .one .u, .one .u, .one .u, .one .u, .one .u, .one .u, .one .u, .one .u, .one .u, .one .u, .one .u, .one .u, .one .u, .one .u, .one .u, .one .u, .one .u, .one .u, .one .u, .one .u, .one .u, .one .u, .one .u, .one .u, .one .u, .one .u, .one .u, .one .u, .one .u, .one .u, .one .u, .one .u, .one .u, .one .u, .one .u, .one .u, .one .u, .one .u, .one .u, .one .u, .one .u, .one .u, .one .u, .one .u, .one .u, .one .u, .one .u, .one .u], [.var 86 [.i .i64], .var 33 [.i .i64, .s, .s, .s, .sl 114, .sl 117, .sl 33], .u]⟩)) .n (some ⟨[.one (.ptr 0 0), .one .u, .one (.i .i64), .one .u, .one (.ptr 1 0), .one .u, .one .u, .one .b, .one .u, .one .u, .one .u, .one .u, .one .u, .one .u, .one .u, .one .u, .one .u, .one .u, .one .u, .one .u, .one .u, .one .u, .one .u, .one .u, .one .u, .one .u, .one .u, .one .u, .one .u, .one .u, .one .u, .one .u, .one .u, .one .u, .one .u, .one .u, .one .u, .one .u, .one .u, .one .u, .one .u, .one .u, .one .u, .one .u, .one .u, .one .u, .one .u, .one .u, .one .u, .one .u, .one .u, .one .u, .one .u, .one .u, .one .u, .one .u, .one .u, .one .u, .one .u, .one .u, .one .u, .one .u, .one .u, .one .u, .one .u, .one .u, .one .u, .one .u, .one .u, .one .u, .one .u, .one .u, .one .u, .one .u, .one .u, .one .u, .one .u, .one .u, .one .u, .one .u, .one .u, .one .u, .one .u, .one .u, .one .u, .one .u, .one .u, .one .u, .one .u, .one .u, .one .u, .one .u, .one .u, .one .u, .one .u, .one .u, .one .u, .one .u, .one .u, .one .u, .one .u, .one .u, .one .u, .one .u, .one .u, .one .u, .one .u, .one .u, .one .u, .one .u, .one .u, .one .u, .one .u, .one .u, .one .u, .one .u, .one .u, .one .u, .one .u, .one .u, .one .u, .one .u, .one .u, .one .u, .one .u, .one .u, .one .u, .one .u, .one .u, .one .u, .one .u, .one .u, .one .u, .one .u, .one .u, .one .u, .one .u, .one .u, .one .u], [.var 86 [.i .i64], .var 33 [.i .i64, .s, .s, .s, .sl 114, .sl 117, .sl 33], .u]⟩))) (some ⟨[.one (.ptr 0 0), .one .u, .one (.i .i64), .one .u, .one (.ptr 1 0), .one .u, .one .u, .one .b, .one .u, .one .u, .one .u, .one .u, .one .u, .one .u, .one .u, .one .u, .one .u, .one .u, .one .u, .one .u, .one .u, .one .u, .one .u, .one .u, .one .u, .one .u, .one .u, .one .u, .one .u, .one .u, .one .u, .one .u, .one .u, .one .u, .one .u, .one .u, .one .u, .one .u, .one .u, .one .u, .one .u, .one .u, .one .u, .one .u, .one .u, .one .u, .one .u, .one .u, .one .u, .one .u, .one .u, .one .u, .one .u, .one .u, .one .u, .one .u, .one .u, .one .u, .one .u, .one .u, .one .u, .one .u, .one .u, .one .u, .one .u, .one .u, .one .u, .one .u, .one .u, .one .u, .one .u, .one .u, .one .u, .one .u, .one .u, .one .u, .one .u, .one .u, .one .u, .one .u, .one .u, .one .u, .one .u, .one .u, .one .u, .one .u, .one .u, .one .u, .one .u, .one .u, .one .u, .one .u, .one .u, .one .u, .one .u, .one .u, .one .u, .one .u, .one .u, .one .u, .one .u, .one .u, .one .u, .one .u, .one .u, .one .u, .one .u, .one .u, .one .u, .one .u, .one .u, .one .u, .one .u, .one .u, .one .u, .one .u, .one .u, .one .u, .one .u, .one .u, .one .u, .one .u, .one .u, .one .u, .one .u, .one .u, .one .u, .one .u, .one .u, .one .u, .one .u, .one .u, .one .u, .one .u, .one .u, .one .u, .one .u, .one .u, .one .u], [.var 86 [.i .i64], .var 33 [.i .i64, .s, .s, .s, .sl 114, .sl 117, .sl 33], .u]⟩))) (some ⟨[.one (.ptr 0 0), .one .u, .one (.i .i64), .one .u, .one (.ptr 1 0), .one .u, .one .u, .one .b, .one .u, .one .u, .one .u, .one .u, .one .u, .one .u, .one .u, .one .u, .one .u, .one .u, .one .u, .one .u, .one .u, .one .u, .one .u, .one .u, .one .u, .one .u, .one .u, .one .u, .one .u, .one .u, .one .u, .one .u, .one .u, .one .u, .one .u, .one .u, .one .u, .one .u, .one .u, .one .u, .one .u, .one .u, .one .u, .one .u, .one .u, .one .u, .one .u, .one .u, .one .u, .one .u, .one .u, .one .u, .one .u, .one .u, .one .u, .one .u, .one .u, .one .u, .one .u, .one .u, .one .u, .one .u, .one .u, .one .u, .one .u, .one .u, .one .u, .one .u, .one .u, .one .u, .one .u, .one .u, .one .u, .one .u, .one .u, .one .u, .one .u, .one .u, .one .u, .one .u, .one .u, .one .u, .one .u, .one .u, .one .u, .one .u, .one .u, .one .u, .one .u, .one .u, .one .u, .one .u, .one .u, .one .u, .one .u, .one .u, .one .u, .one .u, .one .u, .one .u, .one .u, .one .u, .one .u, .one .u, .one .u, .one .u, .one .u, .one .u, .one .u, .one .u, .one .u, .one .u, .one .u, .one .u, .one .u, .one .u, .one .u, .one .u, .one .u, .one .u, .one .u, .one .u, .one .u, .one .u, .one .u, .one .u, .one .u, .one .u, .one .u, .one .u, .one .u, .one .u, .one .u, .one .u, .one .u, .one .u, .one .u, .one .u, .one .u], [.var 86 [.i .i64], .var 33 [.i .i64, .s, .s, .s, .sl 114, .sl 117, .sl 33], .u]⟩))) ⟨[.one (.ptr 0 0), .one .u, .one (.i .i64), .one .u, .one (.ptr 1 0), .one .u, .one .u, .one .b, .one .u, .one .u, .one .u, .one .u, .one .u, .one .u, .one .u, .one .u, .one .u, .one .u, .one .u, .one .u, .one .u, .one .u, .one .u, .one .u, .one .u, .one .u, .one .u, .one .u, .one .u, .one .u, .one .u, .one .u, .one .u, .one .u, .one .u, .one .u, .one .u, .one .u, .one .u, .one .u, .one .u, .one .u, .one .u, .one .u, .one .u, .one .u, .one .u, .one .u, .one .u, .one .u, .one .u, .one .u, .one .u, .one .u, .one .u, .one .u, .one .u, .one .u, .one .u, .one .u, .one .u, .one .u, .one .u, .one .u, .one .u, .one .u, .one .u, .one .u, .one .u, .one .u, .one .u, .one .u, .one .u, .one .u, .one .u, .one .u, .one .u, .one .u, .one .u, .one .u, .one .u, .one .u, .one .u, .one .u, .one .u, .one .u, .one .u, .one .u, .one .u, .one .u, .one .u, .one .u, .one .u, .one .u, .one .u, .one .u, .one .u, .one .u, .one .u, .one .u, .one .u, .one .u, .one .u, .one .u, .one .u, .one .u, .one .u, .one .u, .one .u, .one .u, .one .u, .one .u, .one .u, .one .u, .one .u, .one .u, .one .u, .one .u, .one .u, .one .u, .one .u, .one .u, .one .u, .one .u, .one .u, .one .u, .one .u, .one .u, .one .u, .one .u, .one .u, .one .u, .one .u, .one .u, .one .u, .one .u, .one .u, .one .u, .one .u], [.var 86 [.i .i64], .var 33 [.i .i64, .s, .s, .s, .sl 114, .sl 117, .sl 33], .u]⟩)) (.s .n (.s (.s .n (.b (.b (.s .n (.s .n (.s (.b (.s (.r [0, 0, 2, 0] none) .n) ⟨[.one (.ptr 0 0), .one .u, .one (.i .i64), .one .u, .one .u, .one .u, .one .u, .one .u, .one .u, .one .u, .one .u, .one .u, .one .u, .one .u, .one .u, .one .u, .one .u, .one .u, .one .u, .one .u, .one .u, .one .u, .one .u, .one .u, .one .u, .one .u, .one .u, .one .u, .one .u, .one .u, .one .u, .one .u, .one .u, .one .u, .one .u, .one .u, .one .u, .one .u, .one .u, .one .u, .one .u, .one .u, .one .u, .one .u, .one .u, .one .u, .one .u, .one .u, .one .u, .one .u, .one .u, .one .u, .one .u, .one .u, .one .u, .one .u, .one .u, .one .u, .one .u, .one .u, .one .u, .one .u, .one .u, .one .u, .one .u, .one .u, .one .u, .one .u, .one .u, .one .u, .one .u, .one .u, .one .u, .one .u, .one .u, .one .u, .one .u, .one .u, .one .u, .one .u, .one .u, .one .u, .one .u, .one .u, .one .u, .one .u, .one .u, .one .u, .one .u, .one .u, .one .u, .one .u, .one .u, .one .u, .one .u, .one .u, .one .u, .one .u, .one .u, .one .u, .one .u, .one .u, .one .u, .one .u, .one .u, .one .u, .one .u, .one .u, .one .u, .one .u, .one .u, .one .u, .one .u, .one .u, .one .u, .one .u, .one .u, .one .u, .one .u, .one .u, .one .u, .one .u, .one .u, .one .u, .one .u, .one .u, .one (.sl 33), .one (.i .i64), .one (.i .i64), .one .u, .one .u, .one .u, .one .u, .one .u, .one .u, .one .u, .one .u, .one .u, .one .u], [.var 86 [.i .i64], .u, .u]⟩) .n))) ⟨[.one (.ptr 0 0), .one .u, .one (.i .i64), .one .u, .one .u, .one .u, .one .u, .one .u, .one .u, .one .u, .one .u, .one .u, .one .u, .one .u, .one .u, .one .u, .one .u, .one .u, .one .u, .one .u, .one .u, .one .u, .one .u, .one .u, .one .u, .one .u, .one .u, .one .u, .one .u, .one .u, .one .u, .one .u, .one .u, .one .u, .one .u, .one .u, .one .u, .one .u, .one .u, .one .u, .one .u, .one .u, .one .u, .one .u, .one .u, .one .u, .one .u, .one .u, .one .u, .one .u, .one .u, .one .u, .one .u, .one .u, .one .u, .one .u, .one .u, .one .u, .one .u, .one .u, .one .u, .one .u, .one .u, .one .u, .one .u, .one .u, .one .u, .one .u, .one .u, .one .u, .one .u, .one .u, .one .u, .one .u, .one .u, .one .u, .one .u, .one .u, .one .u, .one .u, .one .u, .one .u, .one .u, .one .u, .one .u, .one .u, .one .u, .one .u, .one .u, .one .u, .one .u, .one .u, .one .u, .one .u, .one .u, .one .u, .one .u, .one .u, .one .u, .one .u, .one .u, .one .u, .one .u, .one .u, .one .u, .one .u, .one .u, .one .u, .one .u, .one .u, .one .u, .one .u, .one .u, .one .u, .one .u, .one .u, .one .u, .one .u, .one .u, .one .u, .one .u, .one .u, .one .u, .one .u, .one .u, .one .u, .one (.sl 33), .one (.i .i64), .one (.i .i64), .one .u, .one .u, .one .u, .one .u, .one .u, .one .u, .one .u, .one .u, .one .u, .one .u], [.var 86 [.i .i64], .u, .u]⟩) ⟨[.one .u, .one .u, .one .u, .one .u, .one .u, .one .u, .one .u, .one .u, .one .u, .one .u, .one .u, .one .u, .one .u, .one .u, .one .u, .one .u, .one .u, .one .u, .one .u, .one .u, .one .u, .one .u, .one .u, .one .u, .one .u, .one .u, .one .u, .one .u, .one .u, .one .u, .one .u, .one .u, .one .u, .one .u, .one .u, .one .u, .one .u, .one .u, .one .u, .one .u, .one .u, .one .u, .one .u, .one .u, .one .u, .one .u, .one .u, .one .u, .one .u, .one .u, .one .u, .one .u, .one .u, .one .u, .one .u, .one .u, .one .u, .one .u, .one .u, .one .u, .one .u, .one .u, .one .u, .one .u, .one .u, .one .u, .one .u, .one .u, .one .u, .one .u, .one .u, .one .u, .one .u, .one .u, .one .u, .one .u, .one .u, .one .u, .one .u, .one .u, .one .u, .one .u, .one .u, .one .u, .one .u, .one .u, .one .u, .one .u, .one .u, .one .u, .one .u, .one .u, .one .u, .one .u, .one .u, .one .u, .one .u, .one .u, .one .u, .one .u, .one .u, .one .u, .one .u, .one .u, .one .u, .one .u, .one .u, .one .u, .one .u, .one .u, .one .u, .one .u, .one .u, .one .u, .one .u, .one .u, .one .u, .one .u, .one .u, .one .u, .one .u, .one .u, .one .u, .one .u, .one .u, .one .u, .one .u, .one .u, .one .u, .one .u, .one .u, .one .u, .one .u, .one .u, .one .u, .one .u, .one .u, .one .u, .one .u], [.var 86 [.i .i64], .u, .u]⟩)) .n))))))))
noncomputable def fi36 : FI := mkFI Tryz.f36 0 [.ct (.sl 114), .ct (.sl 114)] [(false, [.ct .b])] (fun _ => (.s .n (.s .n (.s (.s .n (.b (.b (.s .n (.s (.b .n ⟨[.one (.sl 114), .one (.sl 114), .one .u, .one .u, .one .u, .one (.i .i64), .one .u, .one .u, .one .u, .one .u, .one .u, .one .u, .one .u, .one .u, .one .u, .one .u, .one .u, .one .u, .one .u, .one .u, .one .u, .one .u, .one .u, .one .u, .one .u, .one .u, .one .u], []⟩) .n)) ⟨[.one (.sl 114), .one (.sl 114), .one .u, .one .u, .one .u, .one (.i .i64), .one .u, .one .u, .one .u, .one .u, .one .u, .one .u, .one .u, .one .u, .one .u, .one .u, .one .u, .one .u, .one .u, .one .u, .one .u, .one .u, .one .u, .one .u, .one .u, .one .u, .one .u], []⟩) ⟨[.one .u, .one .u, .one .u, .one .u, .one .u, .one .u, .one .u, .one .u, .one .u, .one .u, .one .u, .one .u, .one .u, .one .u, .one .u, .one .u, .one .u, .one .u, .one .u, .one .u, .one .u, .one .u, .one .u, .one .u, .one .u, .one .u, .one .u], []⟩)) .n))))
noncomputable def fi37 : FI := mkFI Tryz.f37 0 [.ct (.sl 117), .ct (.sl 117)] [(false, [.ct .b])] (fun _ => (.s .n (.s .n (.s (.s .n (.b (.b (.s .n (.s (.b .n ⟨[.one (.sl 117), .one (.sl 117), .one .u, .one .u, .one .u, .one (.i .i64), .one .u, .one .u, .one .u, .one .u, .one .u, .one .u, .one .u, .one .u, .one .u, .one .u, .one .u, .one .u, .one .u, .one .u, .one .u, .one .u, .one .u, .one .u, .one .u, .one .u, .one .u], []⟩) .n)) ⟨[.one (.sl 117), .one (.sl 117), .one .u, .one .u, .one .u, .one (.i .i64), .one .u, .one .u, .one .u, .one .u, .one .u, .one .u, .one .u, .one .u, .one .u, .one .u, .one .u, .one .u, .one .u, .one .u, .one .u, .one .u, .one .u, .one .u, .one .u, .one .u, .one .u], []⟩) ⟨[.one .u, .one .u, .one .u, .one .u, .one .u, .one .u, .one .u, .one .u, .one .u, .one .u, .one .u, .one .u, .one .u, .one .u, .one .u, .one .u, .one .u, .one .u, .one .u, .one .u, .one .u, .one .u, .one .u, .one .u, .one .u, .one .u, .one .u], []⟩)) .n))))
noncomputable def fi38 : FI := mkFI Tryz.f38 0 [.ct (.sl 33), .ct (.sl 33)] [(false, [.ct .b])] (fun _ => (.s .n (.s .n (.s (.s .n (.b (.b (.s .n (.s (.b .n ⟨[.one (.sl 33), .one (.sl 33), .one .u, .one .u, .one .u, .one (.i .i64), .one .u, .one .u, .one .u, .one .u, .one .u, .one .u, .one .u, .one .u, .one .u, .one .u, .one .u, .one .u, .one .u, .one .u, .one .u, .one .u, .one .u, .one .u, .one .u, .one .u, .one .u], []⟩) .n)) ⟨[.one (.sl 33), .one (.sl 33), .one .u, .one .u, .one .u, .one (.i .i64), .one .u, .one .u, .one .u, .one .u, .one .u, .one .u, .one .u, .one .u, .one .u, .one .u, .one .u, .one .u, .one .u, .one .u, .one .u, .one .u, .one .u, .one .u, .one .u, .one .u, .one .u], []⟩) ⟨[.one .u, .one .u, .one .u, .one .u, .one .u, .one .u, .one .u, .one .u, .one .u, .one .u, .one .u, .one .u, .one .u, .one .u, .one .u, .one .u, .one .u, .one .u, .one .u, .one .u, .one .u, .one .u, .one .u, .one .u, .one .u, .one .u, .one .u], []⟩)) .n))))
noncomputable def fi39 : FI := mkFI Tryz.f39 0 [.ct .s] [(false, [.ct .b])] (fun _ => (.s .n (.s (.s (.r [] (some ⟨[.one .s, .one .u, .one .u, .one .u, .one .u, .one .u, .one .u, .one .u, .one .u, .one .u, .one .u, .one .u, .one .u, .one .u, .one .u, .one .u, .one .b, .one .u, .one .u, .one .u, .one .u, .one .u, .one .u, .one .u, .one .u, .one .u, .one .u, .one .u, .one .u, .one .u, .one .u, .one .u, .one .u, .one .u, .one .u], []⟩)) .n) (.s (.s .n (.b (.b (.s .n (.s (.b (.s (.r [] (some ⟨[.one .s, .one .u, .one .u, .one (.i .i64), .one .u, .one .u, .one .u, .one .u, .one .u, .one .u, .one .u, .one .u, .one .u, .one .u, .one .u, .one .u, .one .u, .one .u, .one .u, .one .u, .one .u, .one .u, .one .u, .one .u, .one .u, .one .u, .one .u, .one .u, .one .u, .one .u, .one .u, .one .u, .one .u, .one .u, .one .b], []⟩)) .n) ⟨[.one .s, .one .u, .one .u, .one (.i .i64), .one .u, .one .u, .one .u, .one .u, .one .u, .one .u, .one .u, .one .u, .one .u, .one .u, .one .u, .one .u, .one .u, .one .u, .one .u, .one .u, .one .u, .one .u, .one .u, .one .u, .one .u, .one .u, .one .u, .one .u, .one .u, .one .u, .one .u, .one .u, .one .u, .one .u, .one .u], []⟩) .n)) ⟨[.one .s, .one .u, .one .u, .one (.i .i64), .one .u, .one .u, .one .u, .one .u, .one .u, .one .u, .one .u, .one .u, .one .u, .one .u, .one .u, .one .u, .one .u, .one .u, .one .u, .one .u, .one .u, .one .u, .one .u, .one .u, .one .u, .one .u, .one .u, .one .u, .one .u, .one .u, .one .u, .one .u, .one .u, .one .u, .one .u], []⟩) ⟨[.one .u, .one .u, .one .u, .one .u, .one .u, .one .u, .one .u, .one .u, .one .u, .one .u, .one .u, .one .u, .one .u, .one .u, .one .u, .one .u, .one .u, .one .u, .one .u, .one .u, .one .u, .one .u, .one .u, .one .u, .one .u, .one .u, .one .u, .one .u, .one .u, .one .u, .one .u, .one .u, .one .u, .one .u, .one .u], []⟩)) .n))))
noncomputable def fi40 : FI := mkFI Tryz.f40 0 [.ct (.sl 117)] [(false, [.ct .b])] (fun _ => (.s .n (.s (.s .n (.b (.b (.s .n (.s (.b (.s (.r [] (some ⟨[.one (.sl 117), .one .u, .one .u, .one (.i .i64), .one .u, .one .u, .one .u, .one .u, .one .u, .one .u, .one .u, .one .u, .one .u, .one .u, .one .u, .one .u, .one .u, .one .u, .one .u, .one .u, .one .u, .one .u, .one .u, .one .u, .one .u, .one .b], []⟩)) .n) ⟨[.one (.sl 117), .one .u, .one .u, .one (.i .i64), .one .u, .one .u, .one .u, .one .u, .one .u, .one .u, .one .u, .one .u, .one .u, .one .u, .one .u, .one .u, .one .u, .one .u, .one .u, .one .u, .one .u, .one .u, .one .u, .one .u, .one .u, .one .u], []⟩) .n)) ⟨[.one (.sl 117), .one .u, .one .u, .one (.i .i64), .one .u, .one .u, .one .u, .one .u, .one .u, .one .u, .one .u, .one .u, .one .u, .one .u, .one .u, .one .u, .one .u, .one .u, .one .u, .one .u, .one .u, .one .u, .one .u, .one .u, .one .u, .one .u], []⟩) ⟨[.one .u, .one .u, .one .u, .one .u, .one .u, .one .u, .one .u, .one .u, .one .u, .one .u, .one .u, .one .u, .one .u, .one .u, .one .u, .one .u, .one .u, .one .u, .one .u, .one .u, .one .u, .one .u, .one .u, .one .u, .one .u, .one .u], []⟩)) .n)))
noncomputable def fi41 : FI := mkFI Tryz.f41 0 [.ct (.sl 33)] [(false, [.ct .b])] (fun _ => (.s .n (.s .n (.s (.s .n (.b (.b (.s (.s (.r [] (some ⟨[.one (.sl 33), .one .u, .one .u, .one (.i .i64), .one (.i .i64), .one .u, .one .u, .one .u, .one .u, .one .u, .one .u, .one .u, .one .u, .one .b, .one .u, .one .u, .one .u, .one .u, .one .u, .one .u, .one .u, .one .u, .one .u, .one .u, .one .u, .one .u, .one .u, .one .u, .one .u, .one .u, .one .u, .one .u, .one .u, .one .u, .one .u, .one .u, .one .u, .one .u, .one .u, .one .u], []⟩)) .n) (.s (.b .n ⟨[.one (.sl 33), .one .u, .one .u, .one (.i .i64), .one (.i .i64), .one .u, .one .u, .one .u, .one .u, .one .u, .one .u, .one .u, .one .u, .one .u, .one .u, .one .u, .one .u, .one .u, .one .u, .one .u, .one .u, .one .u, .one .u, .one .u, .one .u, .one .u, .one .u, .one .u, .one .u, .one .u, .one .u, .one .u, .one .u, .one .u, .one .u, .one .u, .one .u, .one .u, .one .u, .one .u], []⟩) .n)) ⟨[.one (.sl 33), .one .u, .one .u, .one (.i .i64), .one (.i .i64), .one .u, .one .u, .one .u, .one .u, .one .u, .one .u, .one .u, .one .u, .one .u, .one .u, .one .u, .one .u, .one .u, .one .u, .one .u, .one .u, .one .u, .one .u, .one .u, .one .u, .one .u, .one .u, .one .u, .one .u, .one .u, .one .u, .one .u, .one .u, .one .u, .one .u, .one .u, .one .u, .one .u, .one .u, .one .u], []⟩) ⟨[.one (.sl 33), .one .u, .one .u, .one (.i .i64), .one .u, .one .u, .one .u, .one .u, .one .u, .one .u, .one .u, .one .u, .one .u, .one .u, .one .u, .one .u, .one .u, .one .u, .one .u, .one .u, .one .u, .one .u, .one .u, .one .u, .one .u, .one .u, .one .u, .one .u, .one .u, .one .u, .one .u, .one .u, .one .u, .one .u, .one .u, .one .u, .one .u, .one .u, .one .u, .one .u], []⟩)) (.s (.s .n (.b (.b (.s (.s (.r [] (some ⟨[.one (.sl 33), .one .u, .one .u, .one (.i .i64), .one .u, .one (.i .i64), .one .u, .one .u, .one .u, .one .u, .one .u, .one .u, .one .u, .one .u, .one .u, .one .u, .one .u, .one .u, .one .u, .one .u, .one .u, .one .u, .one .u, .one .u, .one .u, .one .u, .one .u, .one .u, .one .u, .one .b, .one .u, .one .u, .one .u, .one .u, .one .u, .one .u, .one .u, .one .u, .one .u, .one .u], []⟩)) .n) (.s (.b .n ⟨[.one (.sl 33), .one .u, .one .u, .one (.i .i64), .one .u, .one (.i .i64), .one .u, .one .u, .one .u, .one .u, .one .u, .one .u, .one .u, .one .u, .one .u, .one .u, .one .u, .one .u, .one .u, .one .u, .one .u, .one .u, .one .u, .one .u, .one .u, .one .u, .one .u, .one .u, .one .u, .one .u, .one .u, .one .u, .one .u, .one .u, .one .u, .one .u, .one .u, .one .u, .one .u, .one .u], []⟩) .n)) ⟨[.one (.sl 33), .one .u, .one .u, .one (.i .i64), .one .u, .one (.i .i64), .one .u, .one .u, .one .u, .one .u, .one .u, .one .u, .one .u, .one .u, .one .u, .one .u, .one .u, .one .u, .one .u, .one .u, .one .u, .one .u, .one .u, .one .u, .one .u, .one .u, .one .u, .one .u, .one .u, .one .u, .one .u, .one .u, .one .u, .one .u, .one .u, .one .u, .one .u, .one .u, .one .u, .one .u], []⟩) ⟨[.one .u, .one .u, .one .u, .one (.i .i64), .one .u, .one .u, .one .u, .one .u, .one .u, .one .u, .one .u, .one .u, .one .u, .one .u, .one .u, .one .u, .one .u, .one .u, .one .u, .one .u, .one .u, .one .u, .one .u, .one .u, .one .u, .one .u, .one .u, .one .u, .one .u, .one .u, .one .u, .one .u, .one .u, .one .u, .one .u, .one .u, .one .u, .one .u, .one .u, .one .u], []⟩)) .n)))))
noncomputable def fi42 : FI := mkFI Tryz.f42 0 [.ct .s] [(false, [.ct .b])] (fun _ => (.s .n (.s (.s (.r [] (some ⟨[.one .s, .one .u, .one .u, .one .u, .one .u, .one .u, .one .u, .one .u, .one .u, .one .u, .one .u, .one .u, .one .b, .one .u, .one .u, .one .u, .one .u, .one .u, .one .u, .one .u, .one .u, .one .u, .one .u, .one .u], []⟩)) .n) (.s (.s .n (.b (.b (.s .n (.s .n (.s (.b .n ⟨[.one .s, .one .u, .one .u, .one .u, .one .u, .one .u, .one .u, .one .u, .one .u, .one .u, .one .u, .one .u, .one .u, .one .u, .one (.i .i64), .one (.i .i64), .one .u, .one .u, .one .u, .one .u, .one .u, .one .u, .one .u, .one .u], []⟩) .n))) ⟨[.one .s, .one .u, .one .u, .one .u, .one .u, .one .u, .one .u, .one .u, .one .u, .one .u, .one .u, .one .u, .one .u, .one .u, .one (.i .i64), .one (.i .i64), .one .u, .one .u, .one .u, .one .u, .one .u, .one .u, .one .u, .one .u], []⟩) ⟨[.one .u, .one .u, .one .u, .one .u, .one .u, .one .u, .one .u, .one .u, .one .u, .one .u, .one .u, .one .u, .one .u, .one .u, .one .u, .one .u, .one .u, .one .u, .one .u, .one .u, .one .u, .one .u, .one .u, .one .u], []⟩)) .n))))
noncomputable def fi43 : FI := mkFI Tryz.f43 0 [.ct (.sl 117)] [(false, [.ct .b])] (fun _ => .n)
noncomputable def fi44 : FI := mkFI Tryz.f44 2 [.ct (.sl 33)] [(false, [.ct .b])] (fun _ => (.s .n (.s (.r [0, 0, 0] none) (.s (.s .n (.b (.b (.s .n (.s .n (.s (.b (.s (.r [0, 0, 1, 0] none) .n) ⟨[.one (.sl 33), .one .u, .one .u, .one (.ptr 0 0), .one .u, .one .u, .one .u, .one .u, .one (.sl 33), .one (.i .i64), .one (.i .i64), .one .u, .one .u, .one .u, .one .u, .one .u, .one .u, .one .u, .one .u, .one .u, .one .u, .one .u], [.var 86 [.i .i64], .u]⟩) .n))) ⟨[.one (.sl 33), .one .u, .one .u, .one (.ptr 0 0), .one .u, .one .u, .one .u, .one .u, .one (.sl 33), .one (.i .i64), .one (.i .i64), .one .u, .one .u, .one .u, .one .u, .one .u, .one .u, .one .u, .one .u, .one .u, .one .u, .one .u], [.var 86 [.i .i64], .u]⟩) ⟨[.one (.sl 33), .one .u, .one .u, .one .u, .one .u, .one .u, .one .u, .one .u, .one .u, .one .u, .one .u, .one .u, .one .u, .one .u, .one .u, .one .u, .one .u, .one .u, .one .u, .one .u, .one .u, .one .u], [.u, .u]⟩)) .n))))
noncomputable def fi45 : FI := mkFI Tryz.f45 1 [.ag [.s, .s], .ct (.i .i64)] [(false, [.ct (.i .i64)])] (fun _ => (.s (.r [0, 0] none) .n))
noncomputable def fi46 : FI := mkFI Tryz.f46 1 [.ag [.i .i64, .s, .sl 51, .sl 9], .ct (.i .i64)] [(false, [.ct (.i .i64)])] (fun _ => (.s (.r [0, 0] none) .n))
noncomputable def fi50 : FI := mkFI Tryz.f50 3 [.ag [.s, .s]] [(true, [.ct .s, .ct .s])] (fun _ => (.s (.r [0, 1] none) (.s (.r [2] none) .n)))
noncomputable def fi51 : FI := mkFI Tryz.f51 3 [.ag [.i .i64, .s, .sl 51, .sl 9]] [(true, [.ct (.i .i64), .ct .s, .ct (.sl 59), .ct (.sl 9)])] (fun _ => (.s (.r [0, 1] none) (.s (.r [2] none) .n)))
noncomputable def fi47 : FI := mkFI Tryz.f47 1 [.ag [.s, .s]] [(false, [.ct .b])] (fun _ => (.s (.r [0, 0] none) (.s (.s (.r [] (some ⟨[.one .u, .one (.ptr 0 0), .one .u, .one .u, .one .u, .one .u, .one .u, .one .u, .one .u, .one .u, .one .u, .one .u, .one .u, .one .b, .one .u, .one .u, .one .u, .one .u, .one .u, .one .u, .one .u, .one .u, .one .u, .one .u, .one .u, .one .u, .one .u, .one .u, .one .u, .one .u, .one .u, .one .u, .one .u, .one .u, .one .u, .one .u, .one .u, .one .u, .one .u, .one .u, .one .u, .one .u, .one .u, .one .u, .one .u, .one .u, .one .u, .one .u, .one .u, .one .u, .one .u, .one .u], [.var 56 [.s, .s]]⟩)) .n) (.s (.s .n (.b (.b (.s .n (.s (.b (.s (.r [] (some ⟨[.one .u, .one (.ptr 0 0), .one .u, .one (.i .i64), .one .u, .one .u, .one .u, .one .u, .one .u, .one .u, .one .u, .one .u, .one .u, .one .u, .one .u, .one .u, .one .u, .one .u, .one .u, .one .u, .one .u, .one .u, .one .u, .one .u, .one .u, .one .u, .one .u, .one .u, .one .u, .one .u, .one .u, .one .u, .one .u, .one .u, .one .u, .one .u, .one .u, .one .u, .one .u, .one .u, .one .u, .one .u, .one .u, .one .u, .one .u, .one .u, .one .u, .one .u, .one .u, .one .u, .one .u, .one .b], [.var 56 [.s, .s]]⟩)) .n) ⟨[.one .u, .one (.ptr 0 0), .one .u, .one (.i .i64), .one .u, .one .u, .one .u, .one .u, .one .u, .one .u, .one .u, .one .u, .one .u, .one .u, .one .u, .one .u, .one .u, .one .u, .one .u, .one .u, .one .u, .one .u, .one .u, .one .u, .one .u, .one .u, .one .u, .one .u, .one .u, .one .u, .one .u, .one .u, .one .u, .one .u, .one .u, .one .u, .one .u, .one .u, .one .u, .one .u, .one .u, .one .u, .one .u, .one .u, .one .u, .one .u, .one .u, .one .u, .one .u, .one .u, .one .u, .one .u], [.var 56 [.s, .s]]⟩) .n)) ⟨[.one .u, .one (.ptr 0 0), .one .u, .one (.i .i64), .one .u, .one .u, .one .u, .one .u, .one .u, .one .u, .one .u, .one .u, .one .u, .one .u, .one .u, .one .u, .one .u, .one .u, .one .u, .one .u, .one .u, .one .u, .one .u, .one .u, .one .u, .one .u, .one .u, .one .u, .one .u, .one .u, .one .u, .one .u, .one .u, .one .u, .one .u, .one .u, .one .u, .one .u, .one .u, .one .u, .one .u, .one .u, .one .u, .one .u, .one .u, .one .u, .one .u, .one .u, .one .u, .one .u, .one .u, .one .u], [.var 56 [.s, .s]]⟩) ⟨[.one .u, .one .u, .one .u, .one .u, .one .u, .one .u, .one .u, .one .u, .one .u, .one .u, .one .u, .one .u, .one .u, .one .u, .one .u, .one .u, .one .u, .one .u, .one .u, .one .u, .one .u, .one .u, .one .u, .one .u, .one .u, .one .u, .one .u, .one .u, .one .u, .one .u, .one .u, .one .u, .one .u, .one .u, .one .u, .one .u, .one .u, .one .u, .one .u, .one .u, .one .u, .one .u, .one .u, .one .u, .one .u, .one .u, .one .u, .one .u, .one .u, .one .u, .one .u, .one .u], [.u]⟩)) .n))))
noncomputable def fi48 : FI := mkFI Tryz.f48 1 [.ct .b, .ag [.i .i64, .s, .sl 59, .sl 9]] [(false, [.ct .b])] (fun _ => (.s (.r [0, 0] none) (.s (.s .n (.c (.s (.r [] (some ⟨[.one .u, .one .u, .one .u, .one .u, .one .b, .one .u, .one .u, .one .u, .one .u, .one .u, .one .u, .one .u, .one .u, .one .u, .one .u], [.u]⟩)) .n) .n none)) .n)))
noncomputable def fi49 : FI := mkFI Tryz.f49 0 [.ct (.sl 117)] [(false, [.ct .b])] (fun _ => (.s .n (.s (.s .n (.b (.b (.s .n (.s (.b (.s .n (.b (.b (.s .n (.s (.b .n ⟨[.one (.sl 117), .one .u, .one .u, .one (.i .i64), .one (.i .i64), .one .u, .one .u, .one .u, .one .u, .one .u, .one .u, .one .u, .one .u, .one .u, .one .u, .one .u, .one .u, .one .u, .one .u, .one .u, .one .u, .one .u, .one .u, .one .u, .one .u, .one .u, .one .u, .one .u, .one .u, .one .u, .one .u, .one .u, .one .u, .one .u], []⟩) .n)) ⟨[.one (.sl 117), .one .u, .one .u, .one (.i .i64), .one (.i .i64), .one .u, .one .u, .one .u, .one .u, .one .u, .one .u, .one .u, .one .u, .one .u, .one .u, .one .u, .one .u, .one .u, .one .u, .one .u, .one .u, .one .u, .one .u, .one .u, .one .u, .one .u, .one .u, .one .u, .one .u, .one .u, .one .u, .one .u, .one .u, .one .u], []⟩) ⟨[.one (.sl 117), .one .u, .one .u, .one (.i .i64), .one .u, .one .u, .one .u, .one .u, .one .u, .one .u, .one .u, .one .u, .one .u, .one .u, .one .u, .one .u, .one .u, .one .u, .one .u, .one .u, .one .u, .one .u, .one .u, .one .u, .one .u, .one .u, .one .u, .one .u, .one .u, .one .u, .one .u, .one .u, .one .u, .one .u], []⟩)) ⟨[.one (.sl 117), .one .u, .one .u, .one (.i .i64), .one .u, .one .u, .one .u, .one .u, .one .u, .one .u, .one .u, .one .u, .one .u, .one .u, .one .u, .one .u, .one .u, .one .u, .one .u, .one .u, .one .u, .one .u, .one .u, .one .u, .one .u, .one .u, .one .u, .one .u, .one .u, .one .u, .one .u, .one .u, .one .u, .one .u], []⟩) .n)) ⟨[.one (.sl 117), .one .u, .one .u, .one (.i .i64), .one .u, .one .u, .one .u, .one .u, .one .u, .one .u, .one .u, .one .u, .one .u, .one .u, .one .u, .one .u, .one .u, .one .u, .one .u, .one .u, .one .u, .one .u, .one .u, .one .u, .one .u, .one .u, .one .u, .one .u, .one .u, .one .u, .one .u, .one .u, .one .u, .one .u], []⟩) ⟨[.one (.sl 117), .one .u, .one .u, .one .u, .one .u, .one .u, .one .u, .one .u, .one .u, .one .u, .one .u, .one .u, .one .u, .one .u, .one .u, .one .u, .one .u, .one .u, .one .u, .one .u, .one .u, .one .u, .one .u, .one .u, .one .u, .one .u, .one .u, .one .u, .one .u, .one .u, .one .u, .one .u, .one .u, .one .u], []⟩)) .n)))
noncomputable def fi52 : FI := mkFI Tryz.f52 1 [.ag [.s, .s]] [(false, [.ct .b])] (fun _ => (.s (.r [0, 0] none) (.s (.r [] (some ⟨[.one .u, .one .u, .one .b, .one .u, .one .u, .one .u, .one .u, .one .u, .one .u, .one .u, .one .u, .one .u, .one .u, .one .u, .one .u, .one .u, .one .u, .one .u, .one .u, .one .u, .one .u, .one .u, .one .u, .one .u], [.u]⟩)) .n)))
noncomputable def fi53 : FI := mkFI Tryz.f53 1 [.ct .b, .ag [.i .i64, .s, .sl 59, .sl 9]] [(false, [.ct .b])] (fun _ => (.s (.r [0, 0] none) (.s .n (.s (.r [] (some ⟨[.one .u, .one .u, .one .u, .one .u, .one .b, .one .u, .one .u, .one .u, .one .u, .one .u, .one .u, .one .u, .one .u, .one .u, .one .u], [.u]⟩)) .n))))
noncomputable def fi54 : FI := mkFI Tryz.f54 0 [.ct (.sl 117)] [(false, [.ct .b])] (fun _ => (.s .n (.s (.r [] (some ⟨[.one .u, .one .u, .one .b, .one .u, .one .u, .one .u, .one .u, .one .u, .one .u, .one .u], []⟩)) .n)))
noncomputable def fi55 : FI := mkFI Tryz.f55 2 [.ag [.s, .s], .ag [.s, .s]] [(false, [.ct .b])] (fun _ => (.s (.r [0, 1, 0] none) .n))
noncomputable def fi56 : FI := mkFI Tryz.f56 2 [.ag [.i .i64, .s, .sl 59, .sl 9], .ag [.i .i64, .s, .sl 59, .sl 9]] [(false, [.ct .b])] (fun _ => (.s (.r [0, 1, 0] none) .n))
noncomputable def fi57 : FI := mkFI Tryz.f57 0 [.ct (.sl 53), .ct (.i .i64)] [(false, [.ct (.i .i64)])] (fun _ => (.s .n (.s .n (.s .n (.s (.s .n (.b (.b (.s .n (.s (.b .n ⟨[.one (.sl 53), .one (.i .i64), .one .u, .one .u, .one .u, .one (.i .i64), .one .u, .one .u, .one .u, .one .u, .one .u, .one .u, .one .u, .one .u, .one .u, .one .u, .one .u, .one .u, .one .u, .one .u, .one .u, .one .u, .one .u, .one .u, .one .u, .one .u, .one .u], []⟩) .n)) ⟨[.one (.sl 53), .one (.i .i64), .one .u, .one .u, .one .u, .one (.i .i64), .one .u, .one .u, .one .u, .one .u, .one .u, .one .u, .one .u, .one .u, .one .u, .one .u, .one .u, .one .u, .one .u, .one .u, .one .u, .one .u, .one .u, .one .u, .one .u, .one .u, .one .u], []⟩) ⟨[.one .u, .one (.i .i64), .one .u, .one .u, .one .u, .one .u, .one .u, .one .u, .one .u, .one .u, .one .u, .one .u, .one .u, .one .u, .one .u, .one .u, .one .u, .one .u, .one .u, .one .u, .one .u, .one .u, .one .u, .one .u, .one .u, .one .u, .one .u], []⟩)) .n)))))
noncomputable def fi59 : FI := mkFI Tryz.f59 4 [.ct (.sl 53)] [(false, [.ct (.sl 61)])] (fun _ => (.s .n (.s (.r [0, 0, 0, 0] none) (.s (.s .n (.b (.b (.s .n (.s (.b .n ⟨[.one (.sl 53), .one .u, .one .u, .one (.own 61 2), .one (.i .i64), .one .u, .one .u, .one .u, .one .u, .one .u, .one .u, .one .u, .one .u, .one .u, .one .u, .one .u, .one .u, .one .u, .one .u, .one .u, .one .u, .one .u, .one .u], [.u, .u, .u, .u]⟩) .n)) ⟨[.one (.sl 53), .one .u, .one .u, .one (.own 61 1), .one (.i .i64), .one .u, .one .u, .one .u, .one .u, .one .u, .one .u, .one .u, .one .u, .one .u, .one .u, .one .u, .one .u, .one .u, .one .u, .one .u, .one .u, .one .u, .one .u], [.u, .u, .u, .u]⟩) ⟨[.one .u, .one .u, .one .u, .one (.own 61 3), .one .u, .one .u, .one .u, .one .u, .one .u, .one .u, .one .u, .one .u, .one .u, .one .u, .one .u, .one .u, .one .u, .one .u, .one .u, .one .u, .one .u, .one .u, .one .u], [.u, .u, .u, .u]⟩)) .n))))
noncomputable def fi58 : FI := mkFI Tryz.f58 0 [.ct (.i .i64)] [(false, [.ct .s])] (fun _ => (.s .n (.s (.s .n (.b .n ⟨[.one .u, .one .u, .one .u, .one .u, .one .u, .one .u, .one .u, .one .u, .one .u, .one .u], []⟩)) .n)))
noncomputable def fi60 : FI := mkFI Tryz.f60 1 [.ct (.i .i64)] [(false, [.ct .s])] (fun _ => (.s .n (.s (.r [0, 0] none) .n)))
noncomputable def fi61 : FI := mkFI Tryz.f61 0 [.ct (.sl 61), .fn] [(false, [.ct .b])] (fun _ => .n)
noncomputable def fi63 : FI := mkFI Tryz.f63 0 [.ct (.sl 61), .ct (.sl 61)] [(false, [.ct .b])] (fun _ => (.s .n (.s .n (.s (.s .n (.b (.b (.s .n (.s (.b .n ⟨[.one (.sl 61), .one (.sl 61), .one .u, .one .u, .one .u, .one (.i .i64), .one .u, .one .u, .one .u, .one .u, .one .u, .one .u, .one .u, .one .u, .one .u, .one .u, .one .u, .one .u, .one .u, .one .u, .one .u, .one .u, .one .u, .one .u, .one .u, .one .u, .one .u], []⟩) .n)) ⟨[.one (.sl 61), .one (.sl 61), .one .u, .one .u, .one .u, .one (.i .i64), .one .u, .one .u, .one .u, .one .u, .one .u, .one .u, .one .u, .one .u, .one .u, .one .u, .one .u, .one .u, .one .u, .one .u, .one .u, .one .u, .one .u, .one .u, .one .u, .one .u, .one .u], []⟩) ⟨[.one .u, .one .u, .one .u, .one .u, .one .u, .one .u, .one .u, .one .u, .one .u, .one .u, .one .u, .one .u, .one .u, .one .u, .one .u, .one .u, .one .u, .one .u, .one .u, .one .u, .one .u, .one .u, .one .u, .one .u, .one .u, .one .u, .one .u], []⟩)) .n))))
noncomputable def fi64 : FI := mkFI Tryz.f64 1 [.ag [.s, .i .i64, .s, .sl 51, .sl 9], .ct (.i .i64)] [(false, [.ct (.i .i64)])] (fun _ => (.s (.r [0, 0] none) .n))
noncomputable def fi65 : FI := mkFI Tryz.f65 1 [.ag [.s, .sl 108], .ct (.i .i64)] [(false, [.ct (.i .i64)])] (fun _ => (.s (.r [0, 0] none) .n))
noncomputable def fi68 : FI := mkFI Tryz.f68 3 [.ag [.s, .i .i64, .s, .sl 51, .sl 9]] [(true, [.ct .s, .ct (.i .i64), .ct .s, .ct (.sl 59), .ct (.sl 9)])] (fun _ => (.s (.r [0, 1] none) (.s (.r [2] none) .n)))
noncomputable def fi69 : FI := mkFI Tryz.f69 3 [.ag [.s, .sl 108]] [(true, [.ct .s, .ct (.sl 114)])] (fun _ => (.s (.r [0, 1] none) (.s (.r [2] none) .n)))
noncomputable def fi66 : FI := mkFI Tryz.f66 1 [.ag [.i .i64, .s, .s, .s, .sl 114, .sl 117, .sl 33]] [(false, [.ct .b])] (fun _ => (.s (.r [0, 0] none) (.s (.s .n (.b (.s .n (.c (.s (.r [] (some ⟨[.one .u, .one .u, .one .b, .one .u, .one .u, .one .u, .one .u, .one .u, .one .u, .one .u, .one .u, .one .u, .one .u, .one .u, .one .u, .one .u, .one .u, .one .u, .one .u, .one .u, .one .u, .one .u, .one .u, .one .u, .one .u, .one .u, .one .u, .one .u, .one .u, .one .u, .one .u, .one .u, .one .u, .one .u, .one .u, .one .u, .one .u, .one .u, .one .u, .one .u, .one .u, .one .u, .one .u, .one .u, .one .u, .one .u, .one .u, .one .u, .one .u, .one .u, .one .u, .one .u, .one .u, .one .u, .one .u, .one .u, .one .u, .one .u, .one .u, .one .u, .one .u, .one .u, .one .u, .one .u, .one .u, .one .u, .one .u, .one .u, .one .u, .one .u, .one .u, .one .u, .one .u, .one .u, .one .u, .one .u, .one .u, .one .u, .one .u, .one .u, .one .u, .one .u, .one .u, .one .u, .one .u, .one .u, .one .u, .one .u, .one .u], [.u]⟩)) .n) (.s .n (.c (.s (.r [] (some ⟨[.one .u, .one .u, .one .b, .one .u, .one .u, .one .u, .one .u, .one .u, .one .u, .one .u, .one .u, .one .u, .one .u, .one .u, .one .u, .one .u, .one .u, .one .u, .one .u, .one .u, .one .u, .one .u, .one .u, .one .u, .one .u, .one .u, .one .u, .one .u, .one .u, .one .u, .one .u, .one .u, .one .u, .one .u, .one .u, .one .u, .one .u, .one .u, .one .u, .one .u, .one .u, .one .u, .one .u, .one .u, .one .u, .one .u, .one .u, .one .u, .one .u, .one .u, .one .u, .one .u, .one .u, .one .u, .one .u, .one .u, .one .u, .one .u, .one .u, .one .u, .one .u, .one .u, .one .u, .one .u, .one .u, .one .u, .one .u, .one .u, .one .u, .one .u, .one .u, .one .u, .one .u, .one .u, .one .u, .one .u, .one .u, .one .u, .one .u, .one .u, .one .u, .one .u, .one .u, .one .u, .one .u, .one .u, .one .u, .one .u, .one .u], [.u]⟩)) .n) (.s .n (.c (.s (.r [] (some ⟨[.one .u, .one .u, .one .b, .one .u, .one .u, .one .u, .one .u, .one .u, .one .u, .one .u, .one .u, .one .u, .one .u, .one .u, .one .u, .one .u, .one .u, .one .u, .one .u, .one .u, .one .u, .one .u, .one .u, .one .u, .one .u, .one .u, .one .u, .one .u, .one .u, .one .u, .one .u, .one .u, .one .u, .one .u, .one .u, .one .u, .one .u, .one .u, .one .u, .one .u, .one .u, .one .u, .one .u, .one .u, .one .u, .one .u, .one .u, .one .u, .one .u, .one .u, .one .u, .one .u, .one .u, .one .u, .one .u, .one .u, .one .u, .one .u, .one .u, .one .u, .one .u, .one .u, .one .u, .one .u, .one .u, .one .u, .one .u, .one .u, .one .u, .one .u, .one .u, .one .u, .one .u, .one .u, .one .u, .one .u, .one .u, .one .u, .one .u, .one .u, .one .u, .one .u, .one .u, .one .u, .one .u, .one .u, .one .u, .one .u, .one .u], [.u]⟩)) .n) .n none)) none)) none)) ⟨[.one .u, .one .u, .one .u, .one .u, .one .u, .one .u, .one .u, .one .u, .one .u, .one .u, .one .u, .one .u, .one .u, .one .u, .one .u, .one .u, .one .u, .one .u, .one .u, .one .u, .one .u, .one .u, .one .u, .one .u, .one .u, .one .u, .one .u, .one .u, .one .u, .one .u, .one .u, .one .u, .one .u, .one .u, .one .u, .one .u, .one .u, .one .u, .one .u, .one .u, .one .u, .one .u, .one .u, .one .u, .one .u, .one .u, .one .u, .one .u, .one .u, .one .u, .one .u, .one .u, .one .u, .one .u, .one .u, .one .u, .one .u, .one .u, .one .u, .one .u, .one .u, .one .u, .one .u, .one .u, .one .u, .one .u, .one .u, .one .u, .one .u, .one .u, .one .u, .one .u, .one .u, .one .u, .one .u, .one .u, .one .u, .one .u, .one .u, .one .u, .one .u, .one .u, .one .u, .one .u, .one .u, .one .u, .one .u, .one .u, .one .u], [.u]⟩)) .n)))
noncomputable def fi67 : FI := mkFI Tryz.f67 0 [.ct (.sl 114)] [(false, [.ct .b])] (fun _ => (.s .n (.s (.s .n (.b (.b (.s .n (.s (.b (.s (.r [] (some ⟨[.one (.sl 114), .one .u, .one .u, .one (.i .i64), .one .u, .one .u, .one .u, .one .u, .one .u, .one .u, .one .u, .one .u, .one .u, .one .u, .one .u, .one .u, .one .u, .one .u, .one .u, .one .u, .one .u, .one .u, .one .u, .one .u, .one .u, .one .b], []⟩)) .n) ⟨[.one (.sl 114), .one .u, .one .u, .one (.i .i64), .one .u, .one .u, .one .u, .one .u, .one .u, .one .u, .one .u, .one .u, .one .u, .one .u, .one .u, .one .u, .one .u, .one .u, .one .u, .one .u, .one .u, .one .u, .one .u, .one .u, .one .u, .one .u], []⟩) .n)) ⟨[.one (.sl 114), .one .u, .one .u, .one (.i .i64), .one .u, .one .u, .one .u, .one .u, .one .u, .one .u, .one .u, .one .u, .one .u, .one .u, .one .u, .one .u, .one .u, .one .u, .one .u, .one .u, .one .u, .one .u, .one .u, .one .u, .one .u, .one .u], []⟩) ⟨[.one .u, .one .u, .one .u, .one .u, .one .u, .one .u, .one .u, .one .u, .one .u, .one .u, .one .u, .one .u, .one .u, .one .u, .one .u, .one .u, .one .u, .one .u, .one .u, .one .u, .one .u, .one .u, .one .u, .one .u, .one .u, .one .u], []⟩)) .n)))
noncomputable def fi70 : FI := mkFI Tryz.f70 0 [.ct (.sl 114)] [(false, [.ct .b])] (fun _ => .n)
noncomputable def fi71 : FI := mkFI Tryz.f71 2 [.ag [.s, .i .i64, .s, .sl 59, .sl 9], .ag [.s, .i .i64, .s, .sl 59, .sl 9]] [(false, [.ct .b])] (fun _ => (.s (.r [0, 1, 0] none) .n))
noncomputable def fi72 : FI := mkFI Tryz.f72 2 [.ag [.s, .sl 114], .ag [.s, .sl 114]] [(false, [.ct .b])] (fun _ => (.s (.r [0, 1, 0] none) .n))
noncomputable def fi73 : FI := mkFI Tryz.f73 0 [.ct (.i .u8)] [(false, [.ct .b])] (fun _ => (.s .n (.s (.r [] (some ⟨[.one .u, .one .u, .one .b, .one .u, .one .u, .one .u, .one .u, .one .u, .one .u], []⟩)) .n)))
noncomputable def fi74 : FI := mkFI Tryz.f74 0 [.ct (.i .u8)] [(false, [.ct .b])] (fun _ => (.s .n (.s (.r [] (some ⟨[.one .u, .one .u, .one .b, .one .u, .one .u, .one .u, .one .u, .one .u, .one .u, .one .u, .one .u, .one .u, .one .u, .one .u, .one .u, .one .u, .one .u, .one .u, .one .u, .one .u, .one .u], []⟩)) .n)))
noncomputable def fi75 : FI := mkFI Tryz.f75 0 [.ct (.i .i64), .ct (.i .i64), .ct (.i .i64)] [(false, [.ct .b])] (fun _ => (.s .n (.s (.r [] (some ⟨[.one .u, .one .u, .one .u, .one .u, .one .u, .one .u, .one .b, .one .u, .one .u, .one .u, .one .u, .one .u, .one .u, .one .u, .one .u], []⟩)) .n)))
noncomputable def fi76 : FI := mkFI Tryz.f76 0 [.ct (.i .u8)] [(false, [.ct .b])] (fun _ => (.s .n (.s (.r [] (some ⟨[.one .u, .one .u, .one .b, .one .u, .one .u, .one .u, .one .u, .one .u, .one .u], []⟩)) .n)))
noncomputable def fi77 : FI := mkFI Tryz.f77 0 [.ct (.i .u8)] [(false, [.ct .b])] (fun _ => (.s .n (.s (.r [] (some ⟨[.one .u, .one .u, .one .b, .one .u, .one .u, .one .u, .one .u, .one .u, .one .u, .one .u, .one .u, .one .u, .one .u], []⟩)) .n)))
noncomputable def fi78 : FI := mkFI Tryz.f78 0 [.ct (.sl 117), .fn] [(false, [.ct .b])] (fun _ => .n)
noncomputable def fi80 : FI := mkFI Tryz.f80 0 [.ct (.sl 51), .ct (.i .i64)] [(false, [.ct (.i .i64)])] (fun _ => (.s .n (.s .n (.s .n (.s (.s .n (.b (.b (.s .n (.s (.b .n ⟨[.one (.sl 51), .one (.i .i64), .one .u, .one .u, .one .u, .one (.i .i64), .one .u, .one .u, .one .u, .one .u, .one .u, .one .u, .one .u, .one .u, .one .u, .one .u, .one .u, .one .u, .one .u, .one .u, .one .u, .one .u, .one .u, .one .u, .one .u, .one .u, .one .u], []⟩) .n)) ⟨[.one (.sl 51), .one (.i .i64), .one .u, .one .u, .one .u, .one (.i .i64), .one .u, .one .u, .one .u, .one .u, .one .u, .one .u, .one .u, .one .u, .one .u, .one .u, .one .u, .one .u, .one .u, .one .u, .one .u, .one .u, .one .u, .one .u, .one .u, .one .u, .one .u], []⟩) ⟨[.one .u, .one (.i .i64), .one .u, .one .u, .one .u, .one .u, .one .u, .one .u, .one .u, .one .u, .one .u, .one .u, .one .u, .one .u, .one .u, .one .u, .one .u, .one .u, .one .u, .one .u, .one .u, .one .u, .one .u, .one .u, .one .u, .one .u, .one .u], []⟩)) .n)))))
noncomputable def fi81 : FI := mkFI Tryz.f81 0 [.ct (.sl 9), .ct (.i .i64)] [(false, [.ct (.i .i64)])] (fun _ => (.s .n (.s .n (.s .n (.s (.s .n (.b (.b (.s .n (.s (.b .n ⟨[.one (.sl 9), .one (.i .i64), .one .u, .one .u, .one .u, .one (.i .i64), .one .u, .one .u, .one .u, .one .u, .one .u, .one .u, .one .u, .one .u, .one .u, .one .u, .one .u, .one .u, .one .u, .one .u, .one .u, .one .u, .one .u, .one .u, .one .u, .one .u, .one .u, .one .u], []⟩) .n)) ⟨[.one (.sl 9), .one (.i .i64), .one .u, .one .u, .one .u, .one (.i .i64), .one .u, .one .u, .one .u, .one .u, .one .u, .one .u, .one .u, .one .u, .one .u, .one .u, .one .u, .one .u, .one .u, .one .u, .one .u, .one .u, .one .u, .one .u, .one .u, .one .u, .one .u, .one .u], []⟩) ⟨[.one .u, .one (.i .i64), .one .u, .one .u, .one .u, .one .u, .one .u, .one .u, .one .u, .one .u, .one .u, .one .u, .one .u, .one .u, .one .u, .one .u, .one .u, .one .u, .one .u, .one .u, .one .u, .one .u, .one .u, .one .u, .one .u, .one .u, .one .u, .one .u], []⟩)) .n)))))
noncomputable def fi85 : FI := mkFI Tryz.f85 4 [.ct (.sl 51)] [(false, [.ct (.sl 59)])] (fun _ => (.s .n (.s (.r [0, 0, 0, 0] none) (.s (.s .n (.b (.b (.s .n (.s (.b .n ⟨[.one (.sl 51), .one .u, .one .u, .one (.own 59 2), .one (.i .i64), .one .u, .one .u, .one .u, .one .u, .one .u, .one .u, .one .u, .one .u, .one .u, .one .u, .one .u, .one .u, .one .u, .one .u, .one .u, .one .u, .one .u, .one .u], [.u, .u, .u, .u]⟩) .n)) ⟨[.one (.sl 51), .one .u, .one .u, .one (.own 59 1), .one (.i .i64), .one .u, .one .u, .one .u, .one .u, .one .u, .one .u, .one .u, .one .u, .one .u, .one .u, .one .u, .one .u, .one .u, .one .u, .one .u, .one .u, .one .u, .one .u], [.u, .u, .u, .u]⟩) ⟨[.one .u, .one .u, .one .u, .one (.own 59 3), .one .u, .one .u, .one .u, .one .u, .one .u, .one .u, .one .u, .one .u, .one .u, .one .u, .one .u, .one .u, .one .u, .one .u, .one .u, .one .u, .one .u, .one .u, .one .u], [.u, .u, .u, .u]⟩)) .n))))
noncomputable def fi86 : FI := mkFI Tryz.f86 4 [.ct (.sl 9)] [(false, [.ct (.sl 9)])] (fun _ => (.s .n (.s (.r [0, 0, 0, 0] none) (.s (.s .n (.b (.b (.s .n (.s (.b .n ⟨[.one (.sl 9), .one .u, .one .u, .one (.own 9 2), .one (.i .i64), .one .u, .one .u, .one .u, .one .u, .one .u, .one .u, .one .u, .one .u, .one .u, .one .u, .one .u, .one .u, .one .u, .one .u, .one .u, .one .u, .one .u], [.u, .u, .u, .u]⟩) .n)) ⟨[.one (.sl 9), .one .u, .one .u, .one (.own 9 1), .one (.i .i64), .one .u, .one .u, .one .u, .one .u, .one .u, .one .u, .one .u, .one .u, .one .u, .one .u, .one .u, .one .u, .one .u, .one .u, .one .u, .one .u, .one .u], [.u, .u, .u, .u]⟩) ⟨[.one .u, .one .u, .one .u, .one (.own 9 3), .one .u, .one .u, .one .u, .one .u, .one .u, .one .u, .one .u, .one .u, .one .u, .one .u, .one .u, .one .u, .one .u, .one .u, .one .u, .one .u, .one .u, .one .u], [.u, .u, .u, .u]⟩)) .n))))
noncomputable def fi82 : FI := mkFI Tryz.f82 1 [.ag [.i .i64, .s, .sl 59, .sl 9]] [(false, [.ct .b])] (fun _ => (.s (.r [0, 0] none) .n))
noncomputable def fi83 : FI := mkFI Tryz.f83 1 [.ag [.i .i64, .s, .sl 59, .sl 9]] [(false, [.ct .b])] (fun _ => (.s (.r [0, 0] none) .n))
noncomputable def fi84 : FI := mkFI Tryz.f84 2 [.ag [.i .i64, .s, .sl 59, .sl 9], .ag [.i .i64, .s, .sl 59, .sl 9]] [(false, [.ct .b])] (fun _ => (.s (.r [0, 1, 0] none) (.s (.s (.r [] (some ⟨[.one .u, .one .u, .one (.ptr 0 0), .one (.ptr 1 0), .one .u, .one .u, .one .u, .one .u, .one .u, .one .u, .one .u, .one .u, .one .u, .one .u, .one .u, .one .u, .one .u, .one .u, .one .u, .one .u, .one .u, .one .u, .one .u, .one .u, .one .u, .one .u, .one .u, .one .u, .one .u, .one .u, .one .u, .one .u, .one .u, .one .u, .one .u, .one .u, .one .b, .one .u, .one .u, .one .u, .one .u, .one .u, .one .u, .one .u, .one .u, .one .u, .one .u, .one .u, .one .u, .one .u, .one .u, .one .u, .one .u, .one .u, .one .u, .one .u, .one .u, .one .u, .one .u, .one .u, .one .u, .one .u, .one .u, .one .u, .one .u, .one .u, .one .u, .one .u, .one .u, .one .u, .one .u, .one .u, .one .u, .one .u], [.var 59 [.i .i64, .s, .sl 59, .sl 9], .var 59 [.i .i64, .s, .sl 59, .sl 9]]⟩)) .n) (.s (.s .n (.b (.b (.s .n (.s (.b .n ⟨[.one .u, .one .u, .one (.ptr 0 0), .one (.ptr 1 0), .one .u, .one (.i .i64), .one .u, .one .u, .one .u, .one .u, .one .u, .one .u, .one .u, .one .u, .one .u, .one .u, .one .u, .one .u, .one .u, .one .u, .one .u, .one .u, .one .u, .one .u, .one .u, .one .u, .one .u, .one .u, .one .u, .one .u, .one .u, .one .u, .one .u, .one .u, .one .u, .one .u, .one .u, .one .u, .one .u, .one .u, .one .u, .one .u, .one .u, .one .u, .one .u, .one .u, .one .u, .one .u, .one .u, .one .u, .one .u, .one .u, .one .u, .one .u, .one .u, .one .u, .one .u, .one .u, .one .u, .one .u, .one .u, .one .u, .one .u, .one .u, .one .u, .one .u, .one .u, .one .u, .one .u, .one .u, .one .u, .one .u, .one .u, .one .u], [.var 59 [.i .i64, .s, .sl 59, .sl 9], .var 59 [.i .i64, .s, .sl 59, .sl 9]]⟩) .n)) ⟨[.one .u, .one .u, .one (.ptr 0 0), .one (.ptr 1 0), .one .u, .one (.i .i64), .one .u, .one .u, .one .u, .one .u, .one .u, .one .u, .one .u, .one .u, .one .u, .one .u, .one .u, .one .u, .one .u, .one .u, .one .u, .one .u, .one .u, .one .u, .one .u, .one .u, .one .u, .one .u, .one .u, .one .u, .one .u, .one .u, .one .u, .one .u, .one .u, .one .u, .one .u, .one .u, .one .u, .one .u, .one .u, .one .u, .one .u, .one .u, .one .u, .one .u, .one .u, .one .u, .one .u, .one .u, .one .u, .one .u, .one .u, .one .u, .one .u, .one .u, .one .u, .one .u, .one .u, .one .u, .one .u, .one .u, .one .u, .one .u, .one .u, .one .u, .one .u, .one .u, .one .u, .one .u, .one .u, .one .u, .one .u, .one .u], [.var 59 [.i .i64, .s, .sl 59, .sl 9], .var 59 [.i .i64, .s, .sl 59, .sl 9]]⟩) ⟨[.one .u, .one .u, .one (.ptr 0 0), .one (.ptr 1 0), .one .u, .one .u, .one .u, .one .u, .one .u, .one .u, .one .u, .one .u, .one .u, .one .u, .one .u, .one .u, .one .u, .one .u, .one .u, .one .u, .one .u, .one .u, .one .u, .one .u, .one .u, .one .u, .one .u, .one .u, .one .u, .one .u, .one .u, .one .u, .one .u, .one .u, .one .u, .one .u, .one .u, .one .u, .one .u, .one .u, .one .u, .one .u, .one .u, .one .u, .one .u, .one .u, .one .u, .one .u, .one .u, .one .u, .one .u, .one .u, .one .u, .one .u, .one .u, .one .u, .one .u, .one .u, .one .u, .one .u, .one .u, .one .u, .one .u, .one .u, .one .u, .one .u, .one .u, .one .u, .one .u, .one .u, .one .u, .one .u, .one .u, .one .u], [.var 59 [.i .i64, .s, .sl 59, .sl 9], .var 59 [.i .i64, .s, .sl 59, .sl 9]]⟩)) (.s (.s .n (.b (.b (.s .n (.s (.b .n ⟨[.one .u, .one .u, .one (.ptr 0 0), .one (.ptr 1 0), .one .u, .one .u, .one (.i .i64), .one .u, .one .u, .one .u, .one .u, .one .u, .one .u, .one .u, .one .u, .one .u, .one .u, .one .u, .one .u, .one .u, .one .u, .one .u, .one .u, .one .u, .one .u, .one .u, .one .u, .one .u, .one .u, .one .u, .one .u, .one .u, .one .u, .one .u, .one .u, .one .u, .one .u, .one .u, .one .u, .one .u, .one .u, .one .u, .one .u, .one .u, .one .u, .one .u, .one .u, .one .u, .one .u, .one .u, .one .u, .one .u, .one .u, .one .u, .one .u, .one .u, .one .u, .one .u, .one .u, .one .u, .one .u, .one .u, .one .u, .one .u, .one .u, .one .u, .one .u, .one .u, .one .u, .one .u, .one .u, .one .u, .one .u, .one .u], [.var 59 [.i .i64, .s, .sl 59, .sl 9], .var 59 [.i .i64, .s, .sl 59, .sl 9]]⟩) .n)) ⟨[.one .u, .one .u, .one (.ptr 0 0), .one (.ptr 1 0), .one .u, .one .u, .one (.i .i64), .one .u, .one .u, .one .u, .one .u, .one .u, .one .u, .one .u, .one .u, .one .u, .one .u, .one .u, .one .u, .one .u, .one .u, .one .u, .one .u, .one .u, .one .u, .one .u, .one .u, .one .u, .one .u, .one .u, .one .u, .one .u, .one .u, .one .u, .one .u, .one .u, .one .u, .one .u, .one .u, .one .u, .one .u, .one .u, .one .u, .one .u, .one .u, .one .u, .one .u, .one .u, .one .u, .one .u, .one .u, .one .u, .one .u, .one .u, .one .u, .one .u, .one .u, .one .u, .one .u, .one .u, .one .u, .one .u, .one .u, .one .u, .one .u, .one .u, .one .u, .one .u, .one .u, .one .u, .one .u, .one .u, .one .u, .one .u], [.var 59 [.i .i64, .s, .sl 59, .sl 9], .var 59 [.i .i64, .s, .sl 59, .sl 9]]⟩) ⟨[.one .u, .one .u, .one .u, .one .u, .one .u, .one .u, .one .u, .one .u, .one .u, .one .u, .one .u, .one .u, .one .u, .one .u, .one .u, .one .u, .one .u, .one .u, .one .u, .one .u, .one .u, .one .u, .one .u, .one .u, .one .u, .one .u, .one .u, .one .u, .one .u, .one .u, .one .u, .one .u, .one .u, .one .u, .one .u, .one .u, .one .u, .one .u, .one .u, .one .u, .one .u, .one .u, .one .u, .one .u, .one .u, .one .u, .one .u, .one .u, .one .u, .one .u, .one .u, .one .u, .one .u, .one .u, .one .u, .one .u, .one .u, .one .u, .one .u, .one .u, .one .u, .one .u, .one .u, .one .u, .one .u, .one .u, .one .u, .one .u, .one .u, .one .u, .one .u, .one .u, .one .u, .one .u], [.u, .u]⟩)) .n)))))
noncomputable def fi87 : FI := { mkFI Tryz.f87 0 [.ct .s, .ct .s] [(false, [.ct .s])] (fun _ => .n) with prim := some (primH [.s, .s] [.s] qTrim) }
noncomputable def fi88 : FI := { mkFI Tryz.f88 0 [.ct .s, .ct .s] [(false, [.ct .b])] (fun _ => .n) with prim := some (primH [.s, .s] [.b] qContains) }
noncomputable def fi89 : FI := mkFI Tryz.f89 1 [.ag [.i .i64, .s, .sl 59, .sl 9]] [(false, [.ct .b])] (fun _ => (.s (.r [0, 0] none) (.s (.r [] (some ⟨[.one .u, .one .u, .one .b, .one .u, .one .u, .one .u, .one .u, .one .u, .one .u, .one .u, .one .u, .one .u, .one .u, .one .u, .one .u], [.u]⟩)) .n)))
noncomputable def fi90 : FI := mkFI Tryz.f90 1 [.ag [.i .i64, .s, .sl 59, .sl 9]] [(false, [.ct .b])] (fun _ => (.s (.r [0, 0] none) .n))
noncomputable def fi91 : FI := mkFI Tryz.f91 1 [.ag [.i .i64, .s, .sl 59, .sl 9]] [(false, [.ct .b])] (fun _ => (.s (.r [0, 0] none) (.s (.r [] (some ⟨[.one .u, .one .u, .one .b, .one .u, .one .u, .one .u, .one .u, .one .u, .one .u, .one .u, .one .u, .one .u], [.u]⟩)) .n)))
noncomputable def fi95 : FI := mkFI Tryz.f95 0 [.ct (.sl 59), .ct (.sl 59)] [(false, [.ct .b])] (fun _ => (.s .n (.s .n (.s (.s .n (.b (.b (.s .n (.s (.b .n ⟨[.one (.sl 59), .one (.sl 59), .one .u, .one .u, .one .u, .one (.i .i64), .one .u, .one .u, .one .u, .one .u, .one .u, .one .u, .one .u, .one .u, .one .u, .one .u, .one .u, .one .u, .one .u, .one .u, .one .u, .one .u, .one .u, .one .u, .one .u, .one .u, .one .u], []⟩) .n)) ⟨[.one (.sl 59), .one (.sl 59), .one .u, .one .u, .one .u, .one (.i .i64), .one .u, .one .u, .one .u, .one .u, .one .u, .one .u, .one .u, .one .u, .one .u, .one .u, .one .u, .one .u, .one .u, .one .u, .one .u, .one .u, .one .u, .one .u, .one .u, .one .u, .one .u], []⟩) ⟨[.one .u, .one .u, .one .u, .one .u, .one .u, .one .u, .one .u, .one .u, .one .u, .one .u, .one .u, .one .u, .one .u, .one .u, .one .u, .one .u, .one .u, .one .u, .one .u, .one .u, .one .u, .one .u, .one .u, .one .u, .one .u, .one .u, .one .u], []⟩)) .n))))
noncomputable def fi96 : FI := mkFI Tryz.f96 0 [.ct (.sl 9), .ct (.sl 9)] [(false, [.ct .b])] (fun _ => (.s .n (.s .n (.s (.s .n (.b (.b (.s .n (.s (.b .n ⟨[.one (.sl 9), .one (.sl 9), .one .u, .one .u, .one .u, .one (.i .i64), .one .u, .one .u, .one .u, .one .u, .one .u, .one .u, .one .u, .one .u, .one .u, .one .u, .one .u, .one .u, .one .u, .one .u, .one .u, .one .u, .one .u, .one .u, .one .u, .one .u], []⟩) .n)) ⟨[.one (.sl 9), .one (.sl 9), .one .u, .one .u, .one .u, .one (.i .i64), .one .u, .one .u, .one .u, .one .u, .one .u, .one .u, .one .u, .one .u, .one .u, .one .u, .one .u, .one .u, .one .u, .one .u, .one .u, .one .u, .one .u, .one .u, .one .u, .one .u], []⟩) ⟨[.one .u, .one .u, .one .u, .one .u, .one .u, .one .u, .one .u, .one .u, .one .u, .one .u, .one .u, .one .u, .one .u, .one .u, .one .u, .one .u, .one .u, .one .u, .one .u, .one .u, .one .u, .one .u, .one .u, .one .u, .one .u, .one .u], []⟩)) .n))))
noncomputable def fi97 : FI := mkFI Tryz.f97 0 [.ct (.sl 61), .fn] [(false, [.ct (.i .i64)])] (fun _ => (.s .n (.s (.s .n (.b (.b (.s .n (.s .n (.s (.b .n ⟨[.one (.sl 61), .one (.fn 62 []), .one .u, .one .u, .one .u, .one .u, .one .u, .one (.i .i64), .one (.i .i64), .one .u, .one .u, .one .u, .one .u, .one .u, .one .u, .one .u, .one .u, .one .u, .one .u], []⟩) .n))) ⟨[.one (.sl 61), .one (.fn 62 []), .one .u, .one .u, .one .u, .one .u, .one .u, .one (.i .i64), .one (.i .i64), .one .u, .one .u, .one .u, .one .u, .one .u, .one .u, .one .u, .one .u, .one .u, .one .u], []⟩) ⟨[.one .u, .one .u, .one .u, .one .u, .one .u, .one .u, .one .u, .one .u, .one .u, .one .u, .one .u, .one .u, .one .u, .one .u, .one .u, .one .u, .one .u, .one .u, .one .u], []⟩)) .n)))
noncomputable def fi93 : FI := mkFI Tryz.f93 0 [.ct (.sl 114), .fn] [(false, [.ct .b])] (fun _ => .n)
noncomputable def fi99 : FI := mkFI Tryz.f99 0 [.ct (.i .u8)] [(false, [.ct .b])] (fun _ => (.s .n (.s (.r [] (some ⟨[.one .u, .one .u, .one .b, .one .u, .one .u, .one .u, .one .u, .one .u, .one .u, .one .u, .one .u, .one .u, .one .u, .one .u, .one .u, .one .u, .one .u], []⟩)) .n)))
noncomputable def fi100 : FI := mkFI Tryz.f100 0 [.ct (.sl 117), .fn] [(false, [.ct (.i .i64)])] (fun h => match h.tm with
    | [_, .one (.fn 79 _)] => (.s .n (.s (.s .n (.b (.b (.s .n (.s .n (.s (.b .n ⟨[.one (.sl 117), .one (.fn 79 []), .one .u, .one .u, .one .u, .one .u, .one .u, .one (.i .i64), .one (.i .i64), .one .u, .one .u, .one .u, .one .u, .one .u, .one .u, .one .u, .one .u, .one .u, .one .u], []⟩) .n))) ⟨[.one (.sl 117), .one (.fn 79 []), .one .u, .one .u, .one .u, .one .u, .one .u, .one (.i .i64), .one (.i .i64), .one .u, .one .u, .one .u, .one .u, .one .u, .one .u, .one .u, .one .u, .one .u, .one .u], []⟩) ⟨[.one .u, .one .u, .one .u, .one .u, .one .u, .one .u, .one .u, .one .u, .one .u, .one .u, .one .u, .one .u, .one .u, .one .u, .one .u, .one .u, .one .u, .one .u, .one .u], []⟩)) .n))
    | [_, .one (.fn 92 _)] => (.s .n (.s (.s .n (.b (.b (.s .n (.s .n (.s (.b .n ⟨[.one (.sl 117), .one (.fn 92 []), .one .u, .one .u, .one .u, .one .u, .one .u, .one (.i .i64), .one (.i .i64), .one .u, .one .u, .one .u, .one .u, .one .u, .one .u, .one .u, .one .u, .one .u, .one .u], []⟩) .n))) ⟨[.one (.sl 117), .one (.fn 92 []), .one .u, .one .u, .one .u, .one .u, .one .u, .one (.i .i64), .one (.i .i64), .one .u, .one .u, .one .u, .one .u, .one .u, .one .u, .one .u, .one .u, .one .u, .one .u], []⟩) ⟨[.one .u, .one .u, .one .u, .one .u, .one .u, .one .u, .one .u, .one .u, .one .u, .one .u, .one .u, .one .u, .one .u, .one .u, .one .u, .one .u, .one .u, .one .u, .one .u], []⟩)) .n))
    | _ => .n)
noncomputable def fi101 : FI := mkFI Tryz.f101 1 [.ag [.i .i64, .s, .sl 59, .sl 9], .ct (.i .i64)] [(false, [.ct .b])] (fun _ => (.s (.r [0, 0] none) (.s .n (.s (.r [] (some ⟨[.one .u, .one (.i .i64), .one (.ptr 0 0), .one .u, .one .u, .one .b, .one .u, .one .u, .one .u, .one .u, .one .u, .one .u, .one .u, .one .u, .one .u, .one .u, .one .u, .one .u, .one .u, .one .u, .one .u, .one .u, .one .u, .one .u, .one .u, .one .u, .one .u, .one .u, .one .u, .one .u, .one .u, .one .u, .one .u, .one .u, .one .u, .one .u, .one .u, .one .u, .one .u, .one .u, .one .u, .one .u, .one .u, .one .u, .one .u, .one .u, .one .u, .one .u, .one .u, .one .u, .one .u, .one .u, .one .u, .one .u, .one .u, .one .u, .one .u, .one .u, .one .u, .one .u, .one .u, .one .u, .one .u, .one .u, .one .u, .one .u, .one .u, .one .u, .one .u, .one .u, .one .u, .one .u, .one .u, .one .u, .one .u, .one .u, .one .u, .one .u, .one .u, .one .u, .one .u, .one .u, .one .u, .one .u, .one .u, .one .u, .one .u, .one .u], [.var 59 [.i .i64, .s, .sl 59, .sl 9]]⟩)) (.s (.s (.r [] (some ⟨[.one .u, .one (.i .i64), .one (.ptr 0 0), .one .u, .one .u, .one .u, .one .u, .one .u, .one .u, .one .u, .one .u, .one .u, .one .u, .one .u, .one .u, .one .u, .one .u, .one .u, .one .u, .one .u, .one .u, .one .u, .one .u, .one .u, .one .u, .one .u, .one .u, .one .u, .one .u, .one .u, .one .u, .one .u, .one .u, .one .u, .one .u, .one .u, .one .u, .one .u, .one .u, .one .u, .one .u, .one .u, .one .u, .one .u, .one .u, .one .u, .one .u, .one .u, .one .u, .one .u, .one .u, .one .u, .one .u, .one .u, .one .u, .one .u, .one .u, .one .b, .one .u, .one .u, .one .u, .one .u, .one .u, .one .u, .one .u, .one .u, .one .u, .one .u, .one .u, .one .u, .one .u, .one .u, .one .u, .one .u, .one .u, .one .u, .one .u, .one .u, .one .u, .one .u, .one .u, .one .u, .one .u, .one .u, .one .u, .one .u, .one .u, .one .u], [.var 59 [.i .i64, .s, .sl 59, .sl 9]]⟩)) .n) (.s (.s .n (.b (.b (.s .n (.s (.b (.s (.r [] (some ⟨[.one .u, .one (.i .i64), .one (.ptr 0 0), .one .u, .one .u, .one .u, .one (.i .i64), .one .u, .one .u, .one .u, .one .u, .one .u, .one .u, .one .u, .one .u, .one .u, .one .u, .one .u, .one .u, .one .u, .one .u, .one .u, .one .u, .one .u, .one .u, .one .u, .one .u, .one .u, .one .u, .one .u, .one .u, .one .u, .one .u, .one .u, .one .u, .one .u, .one .u, .one .u, .one .u, .one .u, .one .u, .one .u, .one .u, .one .u, .one .u, .one .u, .one .u, .one .u, .one .u, .one .u, .one .u, .one .u, .one .u, .one .u, .one .u, .one .u, .one .u, .one .u, .one .u, .one .u, .one .u, .one .u, .one .u, .one .u, .one .u, .one .u, .one .u, .one .u, .one .u, .one .u, .one .u, .one .u, .one .u, .one .u, .one .u, .one .u, .one .u, .one .u, .one .u, .one .u, .one .u, .one .u, .one .u, .one .u, .one .u, .one .u, .one .u, .one .b], [.var 59 [.i .i64, .s, .sl 59, .sl 9]]⟩)) .n) ⟨[.one .u, .one (.i .i64), .one (.ptr 0 0), .one .u, .one .u, .one .u, .one (.i .i64), .one .u, .one .u, .one .u, .one .u, .one .u, .one .u, .one .u, .one .u, .one .u, .one .u, .one .u, .one .u, .one .u, .one .u, .one .u, .one .u, .one .u, .one .u, .one .u, .one .u, .one .u, .one .u, .one .u, .one .u, .one .u, .one .u, .one .u, .one .u, .one .u, .one .u, .one .u, .one .u, .one .u, .one .u, .one .u, .one .u, .one .u, .one .u, .one .u, .one .u, .one .u, .one .u, .one .u, .one .u, .one .u, .one .u, .one .u, .one .u, .one .u, .one .u, .one .u, .one .u, .one .u, .one .u, .one .u, .one .u, .one .u, .one .u, .one .u, .one .u, .one .u, .one .u, .one .u, .one .u, .one .u, .one .u, .one .u, .one .u, .one .u, .one .u, .one .u, .one .u, .one .u, .one .u, .one .u, .one .u, .one .u, .one .u, .one .u, .one .u, .one .u], [.var 59 [.i .i64, .s, .sl 59, .sl 9]]⟩) .n)) ⟨[.one .u, .one (.i .i64), .one (.ptr 0 0), .one .u, .one .u, .one .u, .one (.i .i64), .one .u, .one .u, .one .u, .one .u, .one .u, .one .u, .one .u, .one .u, .one .u, .one .u, .one .u, .one .u, .one .u, .one .u, .one .u, .one .u, .one .u, .one .u, .one .u, .one .u, .one .u, .one .u, .one .u, .one .u, .one .u, .one .u, .one .u, .one .u, .one .u, .one .u, .one .u, .one .u, .one .u, .one .u, .one .u, .one .u, .one .u, .one .u, .one .u, .one .u, .one .u, .one .u, .one .u, .one .u, .one .u, .one .u, .one .u, .one .u, .one .u, .one .u, .one .u, .one .u, .one .u, .one .u, .one .u, .one .u, .one .u, .one .u, .one .u, .one .u, .one .u, .one .u, .one .u, .one .u, .one .u, .one .u, .one .u, .one .u, .one .u, .one .u, .one .u, .one .u, .one .u, .one .u, .one .u, .one .u, .one .u, .one .u, .one .u, .one .u, .one .u], [.var 59 [.i .i64, .s, .sl 59, .sl 9]]⟩) ⟨[.one .u, .one .u, .one .u, .one .u, .one .u, .one .u, .one .u, .one .u, .one .u, .one .u, .one .u, .one .u, .one .u, .one .u, .one .u, .one .u, .one .u, .one .u, .one .u, .one .u, .one .u, .one .u, .one .u, .one .u, .one .u, .one .u, .one .u, .one .u, .one .u, .one .u, .one .u, .one .u, .one .u, .one .u, .one .u, .one .u, .one .u, .one .u, .one .u, .one .u, .one .u, .one .u, .one .u, .one .u, .one .u, .one .u, .one .u, .one .u, .one .u, .one .u, .one .u, .one .u, .one .u, .one .u, .one .u, .one .u, .one .u, .one .u, .one .u, .one .u, .one .u, .one .u, .one .u, .one .u, .one .u, .one .u, .one .u, .one .u, .one .u, .one .u, .one .u, .one .u, .one .u, .one .u, .one .u, .one .u, .one .u, .one .u, .one .u, .one .u, .one .u, .one .u, .one .u, .one .u, .one .u, .one .u, .one .u, .one .u], [.u]⟩)) .n))))))
noncomputable def fi102 : FI := mkFI Tryz.f102 1 [.ag [.i .i64, .s, .sl 59, .sl 9]] [(false, [.ct .b])] (fun _ => (.s (.r [0, 0] none) (.s (.s .n (.b (.b (.s .n (.s (.b .n ⟨[.one .u, .one (.ptr 0 0), .one .u, .one (.i .i64), .one .u, .one .u, .one .u, .one .u, .one .u, .one .u, .one .u, .one .u, .one .u, .one .u, .one .u, .one .u, .one .u, .one .u, .one .u, .one .u, .one .u], [.var 59 [.i .i64, .s, .sl 59, .sl 9]]⟩) .n)) ⟨[.one .u, .one (.ptr 0 0), .one .u, .one (.i .i64), .one .u, .one .u, .one .u, .one .u, .one .u, .one .u, .one .u, .one .u, .one .u, .one .u, .one .u, .one .u, .one .u, .one .u, .one .u, .one .u, .one .u], [.var 59 [.i .i64, .s, .sl 59, .sl 9]]⟩) ⟨[.one .u, .one (.ptr 0 0), .one .u, .one .u, .one .u, .one .u, .one .u, .one .u, .one .u, .one .u, .one .u, .one .u, .one .u, .one .u, .one .u, .one .u, .one .u, .one .u, .one .u, .one .u, .one .u], [.var 59 [.i .i64, .s, .sl 59, .sl 9]]⟩)) .n)))
noncomputable def fi111 : FI := mkFI Tryz.f111 1 [.ag [.i .i64, .s, .sl 59, .sl 9]] [(false, [.ct .b])] (fun _ => (.s (.r [0, 0] none) (.s (.r [] (some ⟨[.one .u, .one .u, .one .b, .one .u, .one .u, .one .u, .one .u, .one .u, .one .u, .one .u, .one .u, .one .u, .one .u], [.u]⟩)) .n)))
noncomputable def fi112 : FI := mkFI Tryz.f112 2 [.ag [.i .i64, .s, .sl 59, .sl 9], .ct (.i .i64)] [(false, [.ct .b])] (fun _ => (.s (.r [0, 1, 0] none) (.s (.s .n (.b (.s .n (.c (.s (.r [] (some ⟨[.one .u, .one .u, .one .u, .one .u, .one .b, .one .u, .one .u, .one .u, .one .u, .one .u, .one .u, .one .u, .one .u, .one .u, .one .u, .one .u, .one .u, .one .u, .one .u, .one .u, .one .u, .one .u, .one .u, .one .u, .one .u, .one .u, .one .u, .one .u, .one .u, .one .u, .one .u, .one .u, .one .u, .one .u, .one .u, .one .u, .one .u, .one .u, .one .u, .one .u, .one .u, .one .u, .one .u, .one .u, .one .u, .one .u, .one .u, .one .u, .one .u, .one .u, .one .u, .one .u, .one .u, .one .u, .one .u, .one .u, .one .u, .one .u, .one .u, .one .u, .one .u, .one .u, .one .u, .one .u, .one .u, .one .u, .one .u, .one .u, .one .u, .one .u, .one .u, .one .u, .one .u, .one .u, .one .u, .one .u, .one .u, .one .u, .one .u, .one .u, .one .u, .one .u, .one .u, .one .u, .one .u, .one .u, .one .u, .one .u, .one .u, .one .u, .one .u, .one .u, .one .u, .one .u, .one .u, .one .u, .one .u, .one .u, .one .u, .one .u, .one .u, .one .u], [.u, .u]⟩)) .n) (.s .n (.c (.s (.r [] (some ⟨[.one .u, .one .u, .one .u, .one .u, .one .b, .one .u, .one .u, .one .u, .one .u, .one .u, .one .u, .one .u, .one .u, .one .u, .one .u, .one .u, .one .u, .one .u, .one .u, .one .u, .one .u, .one .u, .one .u, .one .u, .one .u, .one .u, .one .u, .one .u, .one .u, .one .u, .one .u, .one .u, .one .u, .one .u, .one .u, .one .u, .one .u, .one .u, .one .u, .one .u, .one .u, .one .u, .one .u, .one .u, .one .u, .one .u, .one .u, .one .u, .one .u, .one .u, .one .u, .one .u, .one .u, .one .u, .one .u, .one .u, .one .u, .one .u, .one .u, .one .u, .one .u, .one .u, .one .u, .one .u, .one .u, .one .u, .one .u, .one .u, .one .u, .one .u, .one .u, .one .u, .one .u, .one .u, .one .u, .one .u, .one .u, .one .u, .one .u, .one .u, .one .u, .one .u, .one .u, .one .u, .one .u, .one .u, .one .u, .one .u, .one .u, .one .u, .one .u, .one .u, .one .u, .one .u, .one .u, .one .u, .one .u, .one .u, .one .u, .one .u, .one .u, .one .u], [.u, .u]⟩)) .n) (.s .n (.c (.s (.r [] (some ⟨[.one .u, .one .u, .one .u, .one .u, .one .b, .one .u, .one .u, .one .u, .one .u, .one .u, .one .u, .one .u, .one .u, .one .u, .one .u, .one .u, .one .u, .one .u, .one .u, .one .u, .one .u, .one .u, .one .u, .one .u, .one .u, .one .u, .one .u, .one .u, .one .u, .one .u, .one .u, .one .u, .one .u, .one .u, .one .u, .one .u, .one .u, .one .u, .one .u, .one .u, .one .u, .one .u, .one .u, .one .u, .one .u, .one .u, .one .u, .one .u, .one .u, .one .u, .one .u, .one .u, .one .u, .one .u, .one .u, .one .u, .one .u, .one .u, .one .u, .one .u, .one .u, .one .u, .one .u, .one .u, .one .u, .one .u, .one .u, .one .u, .one .u, .one .u, .one .u, .one .u, .one .u, .one .u, .one .u, .one .u, .one .u, .one .u, .one .u, .one .u, .one .u, .one .u, .one .u, .one .u, .one .u, .one .u, .one .u, .one .u, .one .u, .one .u, .one .u, .one .u, .one .u, .one .u, .one .u, .one .u, .one .u, .one .u, .one .u, .one .u, .one .u, .one .u], [.u, .u]⟩)) .n) (.s .n (.c (.s (.r [] (some ⟨[.one .u, .one .u, .one .u, .one .u, .one .b, .one .u, .one .u, .one .u, .one .u, .one .u, .one .u, .one .u, .one .u, .one .u, .one .u, .one .u, .one .u, .one .u, .one .u, .one .u, .one .u, .one .u, .one .u, .one .u, .one .u, .one .u, .one .u, .one .u, .one .u, .one .u, .one .u, .one .u, .one .u, .one .u, .one .u, .one .u, .one .u, .one .u, .one .u, .one .u, .one .u, .one .u, .one .u, .one .u, .one .u, .one .u, .one .u, .one .u, .one .u, .one .u, .one .u, .one .u, .one .u, .one .u, .one .u, .one .u, .one .u, .one .u, .one .u, .one .u, .one .u, .one .u, .one .u, .one .u, .one .u, .one .u, .one .u, .one .u, .one .u, .one .u, .one .u, .one .u, .one .u, .one .u, .one .u, .one .u, .one .u, .one .u, .one .u, .one .u, .one .u, .one .u, .one .u, .one .u, .one .u, .one .u, .one .u, .one .u, .one .u, .one .u, .one .u, .one .u, .one .u, .one .u, .one .u, .one .u, .one .u, .one .u, .one .u, .one .u, .one .u, .one .u], [.u, .u]⟩)) .n) (.s .n (.c (.s (.r [] (some ⟨[.one .u, .one .u, .one .u, .one .u, .one .b, .one .u, .one .u, .one .u, .one .u, .one .u, .one .u, .one .u, .one .u, .one .u, .one .u, .one .u, .one .u, .one .u, .one .u, .one .u, .one .u, .one .u, .one .u, .one .u, .one .u, .one .u, .one .u, .one .u, .one .u, .one .u, .one .u, .one .u, .one .u, .one .u, .one .u, .one .u, .one .u, .one .u, .one .u, .one .u, .one .u, .one .u, .one .u, .one .u, .one .u, .one .u, .one .u, .one .u, .one .u, .one .u, .one .u, .one .u, .one .u, .one .u, .one .u, .one .u, .one .u, .one .u, .one .u, .one .u, .one .u, .one .u, .one .u, .one .u, .one .u, .one .u, .one .u, .one .u, .one .u, .one .u, .one .u, .one .u, .one .u, .one .u, .one .u, .one .u, .one .u, .one .u, .one .u, .one .u, .one .u, .one .u, .one .u, .one .u, .one .u, .one .u, .one .u, .one .u, .one .u, .one .u, .one .u, .one .u, .one .u, .one .u, .one .u, .one .u, .one .u, .one .u, .one .u, .one .u, .one .u, .one .u], [.u, .u]⟩)) .n) (.s .n (.c (.s (.r [] (some ⟨[.one .u, .one .u, .one .u, .one .u, .one .b, .one .u, .one .u, .one .u, .one .u, .one .u, .one .u, .one .u, .one .u, .one .u, .one .u, .one .u, .one .u, .one .u, .one .u, .one .u, .one .u, .one .u, .one .u, .one .u, .one .u, .one .u, .one .u, .one .u, .one .u, .one .u, .one .u, .one .u, .one .u, .one .u, .one .u, .one .u, .one .u, .one .u, .one .u, .one .u, .one .u, .one .u, .one .u, .one .u, .one .u, .one .u, .one .u, .one .u, .one .u, .one .u, .one .u, .one .u, .one .u, .one .u, .one .u, .one .u, .one .u, .one .u, .one .u, .one .u, .one .u, .one .u, .one .u, .one .u, .one .u, .one .u, .one .u, .one .u, .one .u, .one .u, .one .u, .one .u, .one .u, .one .u, .one .u, .one .u, .one .u, .one .u, .one .u, .one .u, .one .u, .one .u, .one .u, .one .u, .one .u, .one .u, .one .u, .one .u, .one .u, .one .u, .one .u, .one .u, .one .u, .one .u, .one .u, .one .u, .one .u, .one .u, .one .u, .one .u, .one .u, .one .u], [.u, .u]⟩)) .n) (.s .n (.c .n (.s .n (.c (.s (.r [] (some ⟨[.one .u, .one .u, .one (.ptr 0 0), .one (.ptr 1 0), .one .u, .one .u, .one .u, .one .u, .one .u, .one .u, .one .u, .one .u, .one .u, .one .u, .one .u, .one .u, .one .u, .one .u, .one .u, .one .u, .one .u, .one .u, .one .u, .one .u, .one .u, .one .u, .one .u, .one .u, .one .u, .one .u, .one .u, .one .u, .one .u, .one .u, .one .u, .one .u, .one .u, .one .u, .one .u, .one .u, .one .u, .one .u, .one .u, .one .u, .one .u, .one .u, .one .u, .one .u, .one .u, .one .u, .one .u, .one .u, .one .u, .one .u, .one .u, .one .u, .one .u, .one .u, .one .u, .one .u, .one .u, .one .u, .one .u, .one .u, .one .u, .one .u, .one .u, .one .u, .one .u, .one .u, .one .u, .one .u, .one .u, .one .u, .one .u, .one .u, .one .u, .one .u, .one .u, .one .u, .one .u, .one .u, .one .u, .one .u, .one .u, .one .u, .one .u, .one .b, .one .u, .one .u, .one .u, .one .u, .one .u, .one .u, .one .u, .one .u, .one .u, .one .u, .one .u, .one .u, .one .u, .one .u], [.var 59 [.i .i64, .s, .sl 59, .sl 9], .var 3 [.i .i64]]⟩)) .n) .n none)) (some ⟨[.one .u, .one .u, .one (.ptr 0 0), .one (.ptr 1 0), .one .u, .one .u, .one .u, .one .u, .one .u, .one .u, .one .u, .one .u, .one .u, .one .u, .one .u, .one .u, .one .u, .one .u, .one .u, .one .u, .one .u, .one .u, .one .u, .one .u, .one .u, .one .u, .one .u, .one .u, .one .u, .one .u, .one .u, .one .u, .one .u, .one .u, .one .u, .one .u, .one .u, .one .u, .one .u, .one .u, .one .u, .one .u, .one .u, .one .u, .one .u, .one .u, .one .u, .one .u, .one .u, .one .u, .one .u, .one .u, .one .u, .one .u, .one .u, .one .u, .one .u, .one .u, .one .u, .one .u, .one .u, .one .u, .one .u, .one .u, .one .u, .one .u, .one .u, .one .u, .one .u, .one .u, .one .u, .one .u, .one .u, .one .u, .one .u, .one .u, .one .u, .one .u, .one .u, .one .u, .one .u, .one .u, .one .u, .one .u, .one .u, .one .u, .one .u, .one .u, .one .u, .one .u, .one .u, .one .u, .one .u, .one .u, .one .u, .one .u, .one .u, .one .u, .one .u, .one .u, .one .u, .one .u], [.var 59 [.i .i64, .s, .sl 59, .sl 9], .var 3 [.i .i64]]⟩))) none)) none)) none)) none)) none)) none)) ⟨[.one .u, .one .u, .one (.ptr 0 0), .one (.ptr 1 0), .one .u, .one .u, .one .u, .one .u, .one .u, .one .u, .one .u, .one .u, .one .u, .one .u, .one .u, .one .u, .one .u, .one .u, .one .u, .one .u, .one .u, .one .u, .one .u, .one .u, .one .u, .one .u, .one .u, .one .u, .one .u, .one .u, .one .u, .one .u, .one .u, .one .u, .one .u, .one .u, .one .u, .one .u, .one .u, .one .u, .one .u, .one .u, .one .u, .one .u, .one .u, .one .u, .one .u, .one .u, .one .u, .one .u, .one .u, .one .u, .one .u, .one .u, .one .u, .one .u, .one .u, .one .u, .one .u, .one .u, .one .u, .one .u, .one .u, .one .u, .one .u, .one .u, .one .u, .one .u, .one .u, .one .u, .one .u, .one .u, .one .u, .one .u, .one .u, .one .u, .one .u, .one .u, .one .u, .one .u, .one .u, .one .u, .one .u, .one .u, .one .u, .one .u, .one .u, .one .u, .one .u, .one .u, .one .u, .one .u, .one .u, .one .u, .one .u, .one .u, .one .u, .one .u, .one .u, .one .u, .one .u, .one .u], [.var 59 [.i .i64, .s, .sl 59, .sl 9], .var 3 [.i .i64]]⟩)) (.s (.r [] (some ⟨[.one .u, .one .u, .one .u, .one .u, .one .b, .one .u, .one .u, .one .u, .one .u, .one .u, .one .u, .one .u, .one .u, .one .u, .one .u, .one .u, .one .u, .one .u, .one .u, .one .u, .one .u, .one .u, .one .u, .one .u, .one .u, .one .u, .one .u, .one .u, .one .u, .one .u, .one .u, .one .u, .one .u, .one .u, .one .u, .one .u, .one .u, .one .u, .one .u, .one .u, .one .u, .one .u, .one .u, .one .u, .one .u, .one .u, .one .u, .one .u, .one .u, .one .u, .one .u, .one .u, .one .u, .one .u, .one .u, .one .u, .one .u, .one .u, .one .u, .one .u, .one .u, .one .u, .one .u, .one .u, .one .u, .one .u, .one .u, .one .u, .one .u, .one .u, .one .u, .one .u, .one .u, .one .u, .one .u, .one .u, .one .u, .one .u, .one .u, .one .u, .one .u, .one .u, .one .u, .one .u, .one .u, .one .u, .one .u, .one .u, .one .u, .one .u, .one .u, .one .u, .one .u, .one .u, .one .u, .one .u, .one .u, .one .u, .one .u, .one .u, .one .u, .one .u], [.u, .u]⟩)) .n))))
noncomputable def fi113 : FI := mkFI Tryz.f113 1 [.ct (.sl 59), .fn] [(false, [.ct .b])] (fun _ => .n)
noncomputable def fi62 : FI := mkFI Tryz.f62 1 [.ag [.s, .s, .s, .b, .i .i64, .s, .sl 59, .sl 9, .sl 117]] [(false, [.ct .b])] (fun _ => (.s (.r [0, 0] none) .n))
noncomputable def fi115 : FI := mkFI Tryz.f115 0 [.ct (.sl 114), .fn] [(false, [.ct (.i .i64)])] (fun h => match h.tm with
    | [_, .one (.fn 98 _)] => (.s .n (.s (.s .n (.b (.b (.s .n (.s .n (.s (.b .n ⟨[.one (.sl 114), .one (.fn 98 []), .one .u, .one .u, .one .u, .one .u, .one .u, .one (.i .i64), .one (.i .i64), .one .u, .one .u, .one .u, .one .u, .one .u, .one .u, .one .u, .one .u, .one .u, .one .u], []⟩) .n))) ⟨[.one (.sl 114), .one (.fn 98 []), .one .u, .one .u, .one .u, .one .u, .one .u, .one (.i .i64), .one (.i .i64), .one .u, .one .u, .one .u, .one .u, .one .u, .one .u, .one .u, .one .u, .one .u, .one .u], []⟩) ⟨[.one .u, .one .u, .one .u, .one .u, .one .u, .one .u, .one .u, .one .u, .one .u, .one .u, .one .u, .one .u, .one .u, .one .u, .one .u, .one .u, .one .u, .one .u, .one .u], []⟩)) .n))
    | [_, .one (.fn 94 _)] => (.s .n (.s (.s .n (.b (.b (.s .n (.s .n (.s (.b .n ⟨[.one (.sl 114), .one (.fn 94 []), .one .u, .one .u, .one .u, .one .u, .one .u, .one (.i .i64), .one (.i .i64), .one .u, .one .u, .one .u, .one .u, .one .u, .one .u, .one .u, .one .u, .one .u, .one .u], []⟩) .n))) ⟨[.one (.sl 114), .one (.fn 94 []), .one .u, .one .u, .one .u, .one .u, .one .u, .one (.i .i64), .one (.i .i64), .one .u, .one .u, .one .u, .one .u, .one .u, .one .u, .one .u, .one .u, .one .u, .one .u], []⟩) ⟨[.one .u, .one .u, .one .u, .one .u, .one .u, .one .u, .one .u, .one .u, .one .u, .one .u, .one .u, .one .u, .one .u, .one .u, .one .u, .one .u, .one .u, .one .u, .one .u], []⟩)) .n))
    | _ => .n)
noncomputable def fi79 : FI := mkFI Tryz.f79 1 [.ag [.s, .sl 114]] [(false, [.ct .b])] (fun _ => (.s (.r [0, 0] none) (.s (.r [] (some ⟨[.one .u, .one .u, .one .b, .one .u, .one .u, .one .u, .one .u, .one .u, .one .u, .one .u, .one .u, .one .u, .one .u], [.u]⟩)) .n)))
noncomputable def fi116 : FI := mkFI Tryz.f116 1 [.ag [.i .i64, .s, .sl 59, .sl 9]] [(false, [.ct .b])] (fun _ => (.s (.r [0, 0] none) (.s (.s .n (.b (.s .n (.c .n (.s .n (.c .n (.s .n (.c .n (.s .n (.c .n (.s .n (.c .n (.s .n (.c (.s (.r [] (some ⟨[.one .u, .one .u, .one .b, .one .u, .one .u, .one .u, .one .u, .one .u, .one .u, .one .u, .one .u, .one .u, .one .u, .one .u, .one .u, .one .u, .one .u, .one .u, .one .u, .one .u, .one .u, .one .u, .one .u, .one .u, .one .u, .one .u, .one .u, .one .u, .one .u, .one .u, .one .u, .one .u, .one .u, .one .u, .one .u, .one .u, .one .u, .one .u, .one .u, .one .u, .one .u, .one .u, .one .u, .one .u, .one .u, .one .u, .one .u, .one .u], [.u]⟩)) .n) (.s (.s .n (.c .n .n (some ⟨[.one .u, .one (.ptr 0 0), .one .u, .one .u, .one .u, .one .u, .one .u, .one .u, .one .u, .one .u, .one .u, .one .u, .one .u, .one .u, .one .u, .one .u, .one .u, .one .u, .one .u, .one .u, .one .u, .one .u, .one .u, .one .u, .one .u, .one .u, .one .u, .one .u, .one .u, .one .u, .one .u, .one .u, .one .u, .one .u, .one .u, .one .u, .one .u, .one .u, .one .u, .one .u, .one .u, .one .u, .one .b, .one .u, .one .u, .one .u, .one .u, .one .u], [.var 59 [.i .i64, .s, .sl 59, .sl 9]]⟩))) .n) none)) none)) none)) none)) none)) none)) ⟨[.one .u, .one .u, .one .u, .one .u, .one .u, .one .u, .one .u, .one .u, .one .u, .one .u, .one .u, .one .u, .one .u, .one .u, .one .u, .one .u, .one .u, .one .u, .one .u, .one .u, .one .u, .one .u, .one .u, .one .u, .one .u, .one .u, .one .u, .one .u, .one .u, .one .u, .one .u, .one .u, .one .u, .one .u, .one .u, .one .u, .one .u, .one .u, .one .u, .one .u, .one .u, .one .u, .one .u, .one .u, .one .u, .one .u, .one .u, .one .u], [.u]⟩)) .n)))
noncomputable def fi122 : FI := mkFI Tryz.f122 0 [.ct .s] [(false, [.ct .b])] (fun _ => (.s .n (.s .n (.s (.r [] (some ⟨[.one .u, .one .u, .one .b, .one .u, .one .u, .one .u, .one .u, .one .u, .one .u, .one .u, .one .u, .one .u, .one .u, .one .u, .one .u, .one .u, .one .u, .one .u, .one .u, .one .u, .one .u, .one .u], []⟩)) .n))))
noncomputable def fi123 : FI := mkFI Tryz.f123 0 [.ct .s] [(false, [.ct .b])] (fun _ => (.s .n (.s .n (.s .n (.s .n (.s (.s .n (.c (.s .n (.s (.s (.r [] (some ⟨[.one .u, .one .u, .one .u, .one .s, .one .s, .one (.i .i64), .one .u, .one .u, .one .u, .one .u, .one .u, .one .u, .one .u, .one .u, .one .u, .one .u, .one .u, .one .u, .one .u, .one .u, .one .u, .one .u, .one .u, .one .u, .one .u, .one .u, .one .u, .one .u, .one .u, .one .u, .one .u, .one .u, .one .u, .one .u, .one .u, .one .b, .one .u, .one .u, .one .u, .one .u, .one .u, .one .u, .one .u, .one .u, .one .u, .one .u, .one .u, .one .u, .one .u, .one .u, .one .u, .one .u, .one .u, .one .u, .one .u, .one .u, .one .u, .one .u, .one .u, .one .u, .one .u, .one .u, .one .u, .one .u], []⟩)) (.c .n .n (some ⟨[.one .u, .one .u, .one .u, .one .s, .one .s, .one (.i .i64), .one .u, .one .u, .one .u, .one .u, .one .u, .one .u, .one .u, .one .u, .one .u, .one .u, .one .u, .one .u, .one .u, .one .u, .one .u, .one .u, .one .u, .one .u, .one .u, .one .u, .one .u, .one .u, .one .u, .one .u, .one .u, .one .u, .one .u, .one .u, .one .u, .one .u, .one .u, .one .u, .one .u, .one .u, .one .u, .one .u, .one .u, .one .u, .one .u, .one .u, .one .u, .one .u, .one .u, .one .u, .one .u, .one .u, .one .u, .one .u, .one .u, .one .u, .one .u, .one .u, .one .u, .one .u, .one .u, .one .u, .one .u, .one .u], []⟩))) .n)) .n (some ⟨[.one .u, .one .u, .one .u, .one .s, .one .u, .one (.i .i64), .one .u, .one .u, .one .u, .one .u, .one .u, .one .u, .one .u, .one .u, .one .u, .one .u, .one .u, .one .u, .one .u, .one .u, .one .u, .one .u, .one .u, .one .u, .one .u, .one .u, .one .u, .one .u, .one .u, .one .u, .one .u, .one .u, .one .u, .one .u, .one .u, .one .u, .one .u, .one .u, .one .u, .one .u, .one .u, .one .u, .one .u, .one .u, .one .u, .one .u, .one .u, .one .u, .one .u, .one .u, .one .u, .one .u, .one .u, .one .u, .one .u, .one .u, .one .u, .one .u, .one .u, .one .u, .one .u, .one .u, .one .u, .one .u], []⟩))) (.s .n (.s (.r [] (some ⟨[.one .u, .one .u, .one .b, .one .u, .one .u, .one .u, .one .u, .one .u, .one .u, .one .u, .one .u, .one .u, .one .u, .one .u, .one .u, .one .u, .one .u, .one .u, .one .u, .one .u, .one .u, .one .u, .one .u, .one .u, .one .u, .one .u, .one .u, .one .u, .one .u, .one .u, .one .u, .one .u, .one .u, .one .u, .one .u, .one .u, .one .u, .one .u, .one .u, .one .u, .one .u, .one .u, .one .u, .one .u, .one .u, .one .u, .one .u, .one .u, .one .u, .one .u, .one .u, .one .u, .one .u, .one .u, .one .u, .one .u, .one .u, .one .u, .one .u, .one .u, .one .u, .one .u, .one .u, .one .u], []⟩)) .n))))))))
noncomputable def fi124 : FI := mkFI Tryz.f124 16 [.ct .s] [(false, [.ct .s])] (fun _ => (.s .n (.s (.s (.r [] (some ⟨[.one .s, .one .u, .one .u, .one .u, .one .u, .one .u, .one .u, .one .u, .one .u, .one .u, .one .u, .one .u, .one .u, .one .u, .one .b, .one .u, .one .u, .one .u, .one .u, .one .u, .one .u, .one .u, .one .u, .one .u, .one .u, .one .u, .one .u, .one .u, .one .u, .one .u, .one .u, .one .u, .one .u, .one .u, .one .u, .one .u, .one .u, .one .u, .one .u, .one .u, .one .u, .one .u, .one .u, .one .u, .one .u, .one .u, .one .u, .one .u, .one .u, .one .u, .one .u, .one .u, .one .u, .one .u, .one .u, .one .u, .one .u, .one .u, .one .u], [.u, .u, .u, .u, .u, .u, .u, .u, .u, .u, .u, .u, .u, .u, .u, .u]⟩)) .n) (.s (.r [0, 0] none) (.s (.s .n (.b (.b (.s .n (.s .n (.s (.b (.s .n (.s .n (.s .n (.b (.s .n (.c (.r [0, 0, 0, 2, 3, 0] none) (.s (.r [] (some ⟨[.one .s, .one .u, .one .u, .one (.own 5 4), .one .u, .one (.i .u8), .one .u, .one .u, .one .u, .one .u, .one .u, .one .u, .one .u, .one .u, .one .u, .one .u, .one .u, .one (.i .i64), .one (.i .i64), .one .u, .one .u, .one .u, .one .u, .one .u, .one .u, .one .u, .one .u, .one .u, .one .u, .one .u, .one .u, .one .u, .one .u, .one .u, .one .u, .one .u, .one .u, .one .u, .one .b, .one .u, .one .u, .one .u, .one .u, .one .u, .one .u, .one .u, .one .u, .one .u, .one .u, .one .u, .one .u, .one .u, .one .u, .one .u, .one .u, .one .u, .one .u, .one .u, .one .u], [.u, .u, .u, .u, .u, .u, .u, .u, .u, .u, .u, .u, .u, .u, .u, .u]⟩)) (.c (.r [0, 0, 0, 0, 0, 0, 0, 5, 6, 0] none) (.r [0, 0, 7, 8, 0] none) (some ⟨[.one .s, .one .u, .one .u, .one (.own 5 9), .one .u, .one .u, .one .u, .one .u, .one .u, .one .u, .one .u, .one .u, .one .u, .one .u, .one .u, .one .u, .one .u, .one (.i .i64), .one (.i .i64), .one .u, .one .u, .one .u, .one .u, .one .u, .one .u, .one .u, .one .u, .one .u, .one .u, .one .u, .one .u, .one .u, .one .u, .one .u, .one .u, .one .u, .one .u, .one .u, .one .u, .one .u, .one .u, .one .u, .one .u, .one .u, .one .u, .one .u, .one .u, .one .u, .one .u, .one .u, .one .u, .one .u, .one .u, .one .u, .one .u, .one .u, .one .u, .one .u, .one .u], [.u, .u, .u, .u, .u, .u, .u, .u, .u, .u, .u, .u, .u, .u, .u, .u]⟩))) (some ⟨[.one .s, .one .u, .one .u, .one (.own 5 10), .one .u, .one .u, .one .u, .one .u, .one .u, .one .u, .one .u, .one .u, .one .u, .one .u, .one .u, .one .u, .one .u, .one (.i .i64), .one (.i .i64), .one .u, .one .u, .one .u, .one .u, .one .u, .one .u, .one .u, .one .u, .one .u, .one .u, .one .u, .one .u, .one .u, .one .u, .one .u, .one .u, .one .u, .one .u, .one .u, .one .u, .one .u, .one .u, .one .u, .one .u, .one .u, .one .u, .one .u, .one .u, .one .u, .one .u, .one .u, .one .u, .one .u, .one .u, .one .u, .one .u, .one .u, .one .u, .one .u, .one .u], [.u, .u, .u, .u, .u, .u, .u, .u, .u, .u, .u, .u, .u, .u, .u, .u]⟩))) ⟨[.one .s, .one .u, .one .u, .one (.own 5 11), .one .u, .one .u, .one .u, .one .u, .one .u, .one .u, .one .u, .one .u, .one .u, .one .u, .one .u, .one .u, .one .u, .one (.i .i64), .one (.i .i64), .one .u, .one .u, .one .u, .one .u, .one .u, .one .u, .one .u, .one .u, .one .u, .one .u, .one .u, .one .u, .one .u, .one .u, .one .u, .one .u, .one .u, .one .u, .one .u, .one .u, .one .u, .one .u, .one .u, .one .u, .one .u, .one .u, .one .u, .one .u, .one .u, .one .u, .one .u, .one .u, .one .u, .one .u, .one .u, .one .u, .one .u, .one .u, .one .u, .one .u], [.u, .u, .u, .u, .u, .u, .u, .u, .u, .u, .u, .u, .u, .u, .u, .u]⟩)))) ⟨[.one .s, .one .u, .one .u, .one (.own 5 12), .one .u, .one .u, .one .u, .one .u, .one .u, .one .u, .one .u, .one .u, .one .u, .one .u, .one .u, .one .u, .one .u, .one (.i .i64), .one (.i .i64), .one .u, .one .u, .one .u, .one .u, .one .u, .one .u, .one .u, .one .u, .one .u, .one .u, .one .u, .one .u, .one .u, .one .u, .one .u, .one .u, .one .u, .one .u, .one .u, .one .u, .one .u, .one .u, .one .u, .one .u, .one .u, .one .u, .one .u, .one .u, .one .u, .one .u, .one .u, .one .u, .one .u, .one .u, .one .u, .one .u, .one .u, .one .u, .one .u, .one .u], [.u, .u, .u, .u, .u, .u, .u, .u, .u, .u, .u, .u, .u, .u, .u, .u]⟩) .n))) ⟨[.one .s, .one .u, .one .u, .one (.own 5 1), .one .u, .one .u, .one .u, .one .u, .one .u, .one .u, .one .u, .one .u, .one .u, .one .u, .one .u, .one .u, .one .u, .one (.i .i64), .one (.i .i64), .one .u, .one .u, .one .u, .one .u, .one .u, .one .u, .one .u, .one .u, .one .u, .one .u, .one .u, .one .u, .one .u, .one .u, .one .u, .one .u, .one .u, .one .u, .one .u, .one .u, .one .u, .one .u, .one .u, .one .u, .one .u, .one .u, .one .u, .one .u, .one .u, .one .u, .one .u, .one .u, .one .u, .one .u, .one .u, .one .u, .one .u, .one .u, .one .u, .one .u], [.u, .u, .u, .u, .u, .u, .u, .u, .u, .u, .u, .u, .u, .u, .u, .u]⟩) ⟨[.one .u, .one .u, .one .u, .one (.own 5 13), .one .u, .one .u, .one .u, .one .u, .one .u, .one .u, .one .u, .one .u, .one .u, .one .u, .one .u, .one .u, .one .u, .one .u, .one .u, .one .u, .one .u, .one .u, .one .u, .one .u, .one .u, .one .u, .one .u, .one .u, .one .u, .one .u, .one .u, .one .u, .one .u, .one .u, .one .u, .one .u, .one .u, .one .u, .one .u, .one .u, .one .u, .one .u, .one .u, .one .u, .one .u, .one .u, .one .u, .one .u, .one .u, .one .u, .one .u, .one .u, .one .u, .one .u, .one .u, .one .u, .one .u, .one .u, .one .u], [.u, .u, .u, .u, .u, .u, .u, .u, .u, .u, .u, .u, .u, .u, .u, .u]⟩)) (.s (.r [0, 14, 15, 0, 0] none) .n))))))
noncomputable def fi125 : FI := mkFI Tryz.f125 0 [.ct .s] [(false, [.ct .b])] (fun _ => (.s .n (.s (.r [] (some ⟨[.one .u, .one .u, .one .b, .one .u, .one .u, .one .u, .one .u, .one .u, .one .u, .one .u, .one .u, .one .u, .one .u], []⟩)) .n)))
noncomputable def fi126 : FI := mkFI Tryz.f126 0 [.ct (.sl 9), .fn] [(false, [.ct .b])] (fun _ => .n)
noncomputable def fi129 : FI := mkFI Tryz.f129 1 [.ct (.sl 59), .fn] [(false, [.ct (.i .i64)])] (fun h => match h.tm with
    | [_, .one (.fn 114 _)] => (.s .n (.s (.s .n (.b (.b (.s .n (.s .n (.s (.b .n ⟨[.one (.sl 59), .one (.fn 114 []), .one .u, .one .u, .one .u, .one .u, .one .u, .one (.i .i64), .one (.i .i64), .one .u, .one .u, .one .u, .one .u, .one .u, .one .u, .one .u, .one .u, .one .u, .one .u], [.u]⟩) .n))) ⟨[.one (.sl 59), .one (.fn 114 []), .one .u, .one .u, .one .u, .one .u, .one .u, .one (.i .i64), .one (.i .i64), .one .u, .one .u, .one .u, .one .u, .one .u, .one .u, .one .u, .one .u, .one .u, .one .u], [.u]⟩) ⟨[.one .u, .one .u, .one .u, .one .u, .one .u, .one .u, .one .u, .one .u, .one .u, .one .u, .one .u, .one .u, .one .u, .one .u, .one .u, .one .u, .one .u, .one .u, .one .u], [.u]⟩)) .n))
    | [_, .one (.fn 128 _)] => (.s .n (.s (.s .n (.b (.b (.s .n (.s .n (.s (.b .n ⟨[.one (.sl 59), .one (.fn 128 [0]), .one .u, .one .u, .one .u, .one .u, .one .u, .one (.i .i64), .one (.i .i64), .one .u, .one .u, .one .u, .one .u, .one .u, .one .u, .one .u, .one .u, .one .u, .one .u], [.var 3 [.i .i64]]⟩) .n))) ⟨[.one (.sl 59), .one (.fn 128 [0]), .one .u, .one .u, .one .u, .one .u, .one .u, .one (.i .i64), .one (.i .i64), .one .u, .one .u, .one .u, .one .u, .one .u, .one .u, .one .u, .one .u, .one .u, .one .u], [.var 3 [.i .i64]]⟩) ⟨[.one .u, .one .u, .one .u, .one .u, .one .u, .one .u, .one .u, .one .u, .one .u, .one .u, .one .u, .one .u, .one .u, .one .u, .one .u, .one .u, .one .u, .one .u, .one .u], [.var 3 [.i .i64]]⟩)) .n))
    | _ => .n)
noncomputable def fi92 : FI := mkFI Tryz.f92 1 [.ag [.s, .sl 114]] [(false, [.ct .b])] (fun _ => (.s (.r [0, 0] none) .n))
noncomputable def fi98 : FI := mkFI Tryz.f98 1 [.ag [.s, .i .i64, .s, .sl 59, .sl 9]] [(false, [.ct .b])] (fun _ => (.s (.r [0, 0] none) (.s (.r [] (some ⟨[.one .u, .one .u, .one .b, .one .u, .one .u, .one .u, .one .u, .one .u, .one .u, .one .u, .one .u, .one .u, .one .u], [.u]⟩)) .n)))
noncomputable def fi130 : FI := mkFI Tryz.f130 0 [.ct .s] [(false, [.ct .b])] (fun _ => (.s .n (.s (.r [] (some ⟨[.one .u, .one .u, .one .b, .one .u, .one .u, .one .u, .one .u, .one .u, .one .u, .one .u, .one .u, .one .u, .one .u, .one .u, .one .u, .one .u, .one .u, .one .u], []⟩)) .n)))
noncomputable def fi131 : FI := mkFI Tryz.f131 0 [.ct .s] [(false, [.ct .b])] (fun _ => (.s .n (.s .n (.s (.s (.r [] (some ⟨[.one .s, .one .u, .one .u, .one (.i .i64), .one .u, .one .u, .one .u, .one .u, .one .u, .one .u, .one .u, .one .u, .one .u, .one .u, .one .u, .one .u, .one .u, .one .u, .one .u, .one .u, .one .b, .one .u, .one .u, .one .u, .one .u, .one .u, .one .u, .one .u, .one .u, .one .u, .one .u, .one .u, .one .u, .one .u, .one .u, .one .u, .one .u, .one .u, .one .u, .one .u, .one .u, .one .u, .one .u, .one .u, .one .u, .one .u, .one .u, .one .u, .one .u, .one .u, .one .u, .one .u, .one .u, .one .u, .one .u, .one .u, .one .u, .one .u, .one .u, .one .u, .one .u, .one .u, .one .u, .one .u, .one .u, .one .u, .one .u, .one .u, .one .u, .one .u, .one .u, .one .u, .one .u, .one .u, .one .u, .one .u, .one .u, .one .u, .one .u, .one .u, .one .u], []⟩)) .n) (.s (.s .n (.c .n .n (some ⟨[.one .s, .one .u, .one .u, .one (.i .i64), .one .u, .one .u, .one .u, .one .u, .one .u, .one .u, .one .u, .one .u, .one .u, .one .u, .one .u, .one .u, .one .u, .one .u, .one .u, .one .u, .one .u, .one .u, .one .u, .one .u, .one .u, .one .u, .one .u, .one .u, .one .u, .one .u, .one .u, .one .u, .one .u, .one .u, .one .u, .one .u, .one .u, .one .u, .one .u, .one .u, .one .u, .one .u, .one .u, .one .u, .one .u, .one .u, .one .u, .one .u, .one .u, .one .u, .one .u, .one .u, .one .u, .one .u, .one .u, .one .u, .one .u, .one .u, .one .u, .one .u, .one .u, .one .u, .one .u, .one .u, .one .u, .one .u, .one .u, .one .u, .one .u, .one .u, .one .u, .one .u, .one .u, .one .u, .one .u, .one .u, .one .u, .one .u, .one .u, .one .u, .one .u], []⟩))) (.s (.s (.r [] (some ⟨[.one .s, .one .u, .one .u, .one (.i .i64), .one .u, .one .u, .one .u, .one .u, .one .u, .one .u, .one .u, .one .u, .one .u, .one .u, .one .u, .one .u, .one .u, .one .u, .one .u, .one .u, .one .u, .one .u, .one .u, .one .u, .one .u, .one .u, .one .u, .one .u, .one .u, .one .u, .one .u, .one .u, .one .u, .one .u, .one .u, .one .u, .one .u, .one .u, .one .u, .one .u, .one .u, .one .u, .one .u, .one .u, .one .u, .one .u, .one .u, .one .u, .one .u, .one .b, .one .u, .one .u, .one .u, .one .u, .one .u, .one .u, .one .u, .one .u, .one .u, .one .u, .one .u, .one .u, .one .u, .one .u, .one .u, .one .u, .one .u, .one .u, .one .u, .one .u, .one .u, .one .u, .one .u, .one .u, .one .u, .one .u, .one .u, .one .u, .one .u, .one .u, .one .u], []⟩)) (.c (.s .n (.s (.s (.r [] (some ⟨[.one .s, .one .u, .one .u, .one (.i .i64), .one .u, .one .u, .one .u, .one .u, .one .u, .one .u, .one .u, .one .u, .one .u, .one .u, .one .u, .one .u, .one .u, .one .u, .one .u, .one .u, .one .u, .one .u, .one .u, .one .u, .one .u, .one .u, .one .u, .one .u, .one .u, .one .u, .one .u, .one .u, .one .u, .one .u, .one .u, .one .u, .one .u, .one .u, .one .u, .one .u, .one .u, .one .u, .one .u, .one .u, .one .u, .one .u, .one .u, .one .u, .one .u, .one .u, .one .u, .one .u, .one .u, .one .u, .one .u, .one .u, .one .u, .one .u, .one .u, .one .u, .one .u, .one .u, .one .u, .one .u, .one .u, .one .u, .one .u, .one .b, .one .u, .one .u, .one .u, .one .u, .one .u, .one .u, .one .u, .one .u, .one .u, .one .u, .one .u, .one .u, .one .u], []⟩)) (.c .n .n (some ⟨[.one .s, .one .u, .one .u, .one (.i .i64), .one .u, .one .u, .one .u, .one .u, .one .u, .one .u, .one .u, .one .u, .one .u, .one .u, .one .u, .one .u, .one .u, .one .u, .one .u, .one .u, .one .u, .one .u, .one .u, .one .u, .one .u, .one .u, .one .u, .one .u, .one .u, .one .u, .one .u, .one .u, .one .u, .one .u, .one .u, .one .u, .one .u, .one .u, .one .u, .one .u, .one .u, .one .u, .one .u, .one .u, .one .u, .one .u, .one .u, .one .u, .one .u, .one .u, .one .u, .one .u, .one .u, .one .u, .one .u, .one .u, .one .u, .one .u, .one .u, .one .u, .one .u, .one .u, .one .u, .one .u, .one .u, .one .u, .one .u, .one .u, .one .u, .one .u, .one .u, .one .u, .one .u, .one .u, .one .u, .one .u, .one .u, .one .u, .one .u, .one .u, .one .u], []⟩))) .n)) .n (some ⟨[.one .s, .one .u, .one .u, .one (.i .i64), .one .u, .one .u, .one .u, .one .u, .one .u, .one .u, .one .u, .one .u, .one .u, .one .u, .one .u, .one .u, .one .u, .one .u, .one .u, .one .u, .one .u, .one .u, .one .u, .one .u, .one .u, .one .u, .one .u, .one .u, .one .u, .one .u, .one .u, .one .u, .one .u, .one .u, .one .u, .one .u, .one .u, .one .u, .one .u, .one .u, .one .u, .one .u, .one .u, .one .u, .one .u, .one .u, .one .u, .one .u, .one .u, .one .u, .one .u, .one .u, .one .u, .one .u, .one .u, .one .u, .one .u, .one .u, .one .u, .one .u, .one .u, .one .u, .one .u, .one .u, .one .u, .one .u, .one .u, .one .u, .one .u, .one .u, .one .u, .one .u, .one .u, .one .u, .one .u, .one .u, .one .u, .one .u, .one .u, .one .u, .one .u], []⟩))) .n))))))
noncomputable def fi132 : FI := mkFI Tryz.f132 0 [.ct .s] [(false, [.ct .s])] (fun _ => (.s .n (.s (.s (.r [] (some ⟨[.one .s, .one .u, .one .u, .one .u, .one .u, .one .u, .one .u, .one .u, .one .u, .one .u, .one .u, .one .u, .one .u, .one .b, .one .u, .one .u, .one .u, .one .u, .one .u, .one .u, .one .u, .one .u, .one .u, .one .u, .one .u, .one .u, .one .u, .one .u, .one .u, .one .u, .one .u, .one .u, .one .u, .one .u, .one .u, .one .u, .one .u, .one .u, .one .u, .one .u, .one .u, .one .u, .one .u, .one .u, .one .u, .one .u, .one .u, .one .u, .one .u, .one .u, .one .u, .one .u, .one .u, .one .u, .one .u, .one .u, .one .u, .one .u, .one .u, .one .u, .one .u, .one .u, .one .u, .one .u, .one .u, .one .u, .one .u, .one .u, .one .u, .one .u, .one .u, .one .u, .one .u, .one .u, .one .u, .one .u, .one .u, .one .u, .one .u, .one .u, .one .u, .one .u, .one .u, .one .u, .one .u], []⟩)) .n) (.s .n (.s (.s .n (.b (.b (.s .n (.s (.b (.s .n (.b (.s (.r [] (some ⟨[.one .s, .one .u, .one .u, .one .s, .one (.i .i64), .one (.i .u8), .one .u, .one .u, .one .u, .one .u, .one .u, .one .u, .one .u, .one .u, .one .u, .one .u, .one .u, .one .u, .one .u, .one .u, .one .u, .one .u, .one .u, .one .u, .one .u, .one .u, .one .u, .one .u, .one .u, .one .u, .one .b, .one .u, .one .u, .one .u, .one .u, .one .u, .one .u, .one .u, .one .u, .one .u, .one .u, .one .u, .one .u, .one .u, .one .u, .one .u, .one .u, .one .u, .one .u, .one .u, .one .u, .one .u, .one .u, .one .u, .one .u, .one .u, .one .u, .one .u, .one .u, .one .u, .one .u, .one .u, .one .u, .one .u, .one .u, .one .u, .one .u, .one .u, .one .u, .one .u, .one .u, .one .u, .one .u, .one .u, .one .u, .one .u, .one .u, .one .u, .one .u, .one .u, .one .u, .one .u, .one .u, .one .u, .one .u], []⟩)) (.c .n (.s .n (.c .n (.s .n (.c .n (.s .n (.c .n (.s .n (.c .n (.s .n (.c .n (.s (.r [] (some ⟨[.one .s, .one .u, .one .u, .one .s, .one (.i .i64), .one (.i .u8), .one .u, .one .u, .one .u, .one .u, .one .u, .one .u, .one .u, .one .u, .one .u, .one .u, .one .u, .one .u, .one .u, .one .u, .one .u, .one .u, .one .u, .one .u, .one .u, .one .u, .one .u, .one .u, .one .u, .one .u, .one .u, .one .u, .one .u, .one .u, .one .u, .one .u, .one .u, .one .u, .one .u, .one .u, .one .u, .one .u, .one .u, .one .u, .one .u, .one .u, .one .u, .one .u, .one .u, .one .u, .one .u, .one .u, .one .u, .one .u, .one .u, .one .u, .one .u, .one .u, .one .u, .one .u, .one .u, .one .u, .one .u, .one .u, .one .u, .one .u, .one .u, .one .u, .one .u, .one .u, .one .b, .one .u, .one .u, .one .u, .one .u, .one .u, .one .u, .one .u, .one .u, .one .u, .one .u, .one .u, .one .u, .one .u, .one .u], []⟩)) (.c .n .n (some ⟨[.one .s, .one .u, .one .u, .one .s, .one (.i .i64), .one .u, .one .u, .one .u, .one .u, .one .u, .one .u, .one .u, .one .u, .one .u, .one .u, .one .u, .one .u, .one .u, .one .u, .one .u, .one .u, .one .u, .one .u, .one .u, .one .u, .one .u, .one .u, .one .u, .one .u, .one .u, .one .u, .one .u, .one .u, .one .u, .one .u, .one .u, .one .u, .one .u, .one .u, .one .u, .one .u, .one .u, .one .u, .one .u, .one .u, .one .u, .one .u, .one .u, .one .u, .one .u, .one .u, .one .u, .one .u, .one .u, .one .u, .one .u, .one .u, .one .u, .one .u, .one .u, .one .u, .one .u, .one .u, .one .u, .one .u, .one .u, .one .u, .one .u, .one .u, .one .u, .one .u, .one .u, .one .u, .one .u, .one .u, .one .u, .one .u, .one .u, .one .u, .one .u, .one .u, .one .u, .one .u, .one .u, .one .u], []⟩))) (some ⟨[.one .s, .one .u, .one .u, .one .s, .one (.i .i64), .one .u, .one .u, .one .u, .one .u, .one .u, .one .u, .one .u, .one .u, .one .u, .one .u, .one .u, .one .u, .one .u, .one .u, .one .u, .one .u, .one .u, .one .u, .one .u, .one .u, .one .u, .one .u, .one .u, .one .u, .one .u, .one .u, .one .u, .one .u, .one .u, .one .u, .one .u, .one .u, .one .u, .one .u, .one .u, .one .u, .one .u, .one .u, .one .u, .one .u, .one .u, .one .u, .one .u, .one .u, .one .u, .one .u, .one .u, .one .u, .one .u, .one .u, .one .u, .one .u, .one .u, .one .u, .one .u, .one .u, .one .u, .one .u, .one .u, .one .u, .one .u, .one .u, .one .u, .one .u, .one .u, .one .u, .one .u, .one .u, .one .u, .one .u, .one .u, .one .u, .one .u, .one .u, .one .u, .one .u, .one .u, .one .u, .one .u, .one .u], []⟩))) (some ⟨[.one .s, .one .u, .one .u, .one .s, .one (.i .i64), .one .u, .one .u, .one .u, .one .u, .one .u, .one .u, .one .u, .one .u, .one .u, .one .u, .one .u, .one .u, .one .u, .one .u, .one .u, .one .u, .one .u, .one .u, .one .u, .one .u, .one .u, .one .u, .one .u, .one .u, .one .u, .one .u, .one .u, .one .u, .one .u, .one .u, .one .u, .one .u, .one .u, .one .u, .one .u, .one .u, .one .u, .one .u, .one .u, .one .u, .one .u, .one .u, .one .u, .one .u, .one .u, .one .u, .one .u, .one .u, .one .u, .one .u, .one .u, .one .u, .one .u, .one .u, .one .u, .one .u, .one .u, .one .u, .one .u, .one .u, .one .u, .one .u, .one .u, .one .u, .one .u, .one .u, .one .u, .one .u, .one .u, .one .u, .one .u, .one .u, .one .u, .one .u, .one .u, .one .u, .one .u, .one .u, .one .u, .one .u], []⟩))) (some ⟨[.one .s, .one .u, .one .u, .one .s, .one (.i .i64), .one .u, .one .u, .one .u, .one .u, .one .u, .one .u, .one .u, .one .u, .one .u, .one .u, .one .u, .one .u, .one .u, .one .u, .one .u, .one .u, .one .u, .one .u, .one .u, .one .u, .one .u, .one .u, .one .u, .one .u, .one .u, .one .u, .one .u, .one .u, .one .u, .one .u, .one .u, .one .u, .one .u, .one .u, .one .u, .one .u, .one .u, .one .u, .one .u, .one .u, .one .u, .one .u, .one .u, .one .u, .one .u, .one .u, .one .u, .one .u, .one .u, .one .u, .one .u, .one .u, .one .u, .one .u, .one .u, .one .u, .one .u, .one .u, .one .u, .one .u, .one .u, .one .u, .one .u, .one .u, .one .u, .one .u, .one .u, .one .u, .one .u, .one .u, .one .u, .one .u, .one .u, .one .u, .one .u, .one .u, .one .u, .one .u, .one .u, .one .u], []⟩))) (some ⟨[.one .s, .one .u, .one .u, .one .s, .one (.i .i64), .one .u, .one .u, .one .u, .one .u, .one .u, .one .u, .one .u, .one .u, .one .u, .one .u, .one .u, .one .u, .one .u, .one .u, .one .u, .one .u, .one .u, .one .u, .one .u, .one .u, .one .u, .one .u, .one .u, .one .u, .one .u, .one .u, .one .u, .one .u, .one .u, .one .u, .one .u, .one .u, .one .u, .one .u, .one .u, .one .u, .one .u, .one .u, .one .u, .one .u, .one .u, .one .u, .one .u, .one .u, .one .u, .one .u, .one .u, .one .u, .one .u, .one .u, .one .u, .one .u, .one .u, .one .u, .one .u, .one .u, .one .u, .one .u, .one .u, .one .u, .one .u, .one .u, .one .u, .one .u, .one .u, .one .u, .one .u, .one .u, .one .u, .one .u, .one .u, .one .u, .one .u, .one .u, .one .u, .one .u, .one .u, .one .u, .one .u, .one .u], []⟩))) (some ⟨[.one .s, .one .u, .one .u, .one .s, .one (.i .i64), .one .u, .one .u, .one .u, .one .u, .one .u, .one .u, .one .u, .one .u, .one .u, .one .u, .one .u, .one .u, .one .u, .one .u, .one .u, .one .u, .one .u, .one .u, .one .u, .one .u, .one .u, .one .u, .one .u, .one .u, .one .u, .one .u, .one .u, .one .u, .one .u, .one .u, .one .u, .one .u, .one .u, .one .u, .one .u, .one .u, .one .u, .one .u, .one .u, .one .u, .one .u, .one .u, .one .u, .one .u, .one .u, .one .u, .one .u, .one .u, .one .u, .one .u, .one .u, .one .u, .one .u, .one .u, .one .u, .one .u, .one .u, .one .u, .one .u, .one .u, .one .u, .one .u, .one .u, .one .u, .one .u, .one .u, .one .u, .one .u, .one .u, .one .u, .one .u, .one .u, .one .u, .one .u, .one .u, .one .u, .one .u, .one .u, .one .u, .one .u], []⟩))) (some ⟨[.one .s, .one .u, .one .u, .one .s, .one (.i .i64), .one .u, .one .u, .one .u, .one .u, .one .u, .one .u, .one .u, .one .u, .one .u, .one .u, .one .u, .one .u, .one .u, .one .u, .one .u, .one .u, .one .u, .one .u, .one .u, .one .u, .one .u, .one .u, .one .u, .one .u, .one .u, .one .u, .one .u, .one .u, .one .u, .one .u, .one .u, .one .u, .one .u, .one .u, .one .u, .one .u, .one .u, .one .u, .one .u, .one .u, .one .u, .one .u, .one .u, .one .u, .one .u, .one .u, .one .u, .one .u, .one .u, .one .u, .one .u, .one .u, .one .u, .one .u, .one .u, .one .u, .one .u, .one .u, .one .u, .one .u, .one .u, .one .u, .one .u, .one .u, .one .u, .one .u, .one .u, .one .u, .one .u, .one .u, .one .u, .one .u, .one .u, .one .u, .one .u, .one .u, .one .u, .one .u, .one .u, .one .u], []⟩))) ⟨[.one .s, .one .u, .one .u, .one .s, .one (.i .i64), .one .u, .one .u, .one .u, .one .u, .one .u, .one .u, .one .u, .one .u, .one .u, .one .u, .one .u, .one .u, .one .u, .one .u, .one .u, .one .u, .one .u, .one .u, .one .u, .one .u, .one .u, .one .u, .one .u, .one .u, .one .u, .one .u, .one .u, .one .u, .one .u, .one .u, .one .u, .one .u, .one .u, .one .u, .one .u, .one .u, .one .u, .one .u, .one .u, .one .u, .one .u, .one .u, .one .u, .one .u, .one .u, .one .u, .one .u, .one .u, .one .u, .one .u, .one .u, .one .u, .one .u, .one .u, .one .u, .one .u, .one .u, .one .u, .one .u, .one .u, .one .u, .one .u, .one .u, .one .u, .one .u, .one .u, .one .u, .one .u, .one .u, .one .u, .one .u, .one .u, .one .u, .one .u, .one .u, .one .u, .one .u, .one .u, .one .u, .one .u], []⟩)) ⟨[.one .s, .one .u, .one .u, .one .s, .one (.i .i64), .one .u, .one .u, .one .u, .one .u, .one .u, .one .u, .one .u, .one .u, .one .u, .one .u, .one .u, .one .u, .one .u, .one .u, .one .u, .one .u, .one .u, .one .u, .one .u, .one .u, .one .u, .one .u, .one .u, .one .u, .one .u, .one .u, .one .u, .one .u, .one .u, .one .u, .one .u, .one .u, .one .u, .one .u, .one .u, .one .u, .one .u, .one .u, .one .u, .one .u, .one .u, .one .u, .one .u, .one .u, .one .u, .one .u, .one .u, .one .u, .one .u, .one .u, .one .u, .one .u, .one .u, .one .u, .one .u, .one .u, .one .u, .one .u, .one .u, .one .u, .one .u, .one .u, .one .u, .one .u, .one .u, .one .u, .one .u, .one .u, .one .u, .one .u, .one .u, .one .u, .one .u, .one .u, .one .u, .one .u, .one .u, .one .u, .one .u, .one .u], []⟩) .n)) ⟨[.one .s, .one .u, .one .u, .one .s, .one (.i .i64), .one .u, .one .u, .one .u, .one .u, .one .u, .one .u, .one .u, .one .u, .one .u, .one .u, .one .u, .one .u, .one .u, .one .u, .one .u, .one .u, .one .u, .one .u, .one .u, .one .u, .one .u, .one .u, .one .u, .one .u, .one .u, .one .u, .one .u, .one .u, .one .u, .one .u, .one .u, .one .u, .one .u, .one .u, .one .u, .one .u, .one .u, .one .u, .one .u, .one .u, .one .u, .one .u, .one .u, .one .u, .one .u, .one .u, .one .u, .one .u, .one .u, .one .u, .one .u, .one .u, .one .u, .one .u, .one .u, .one .u, .one .u, .one .u, .one .u, .one .u, .one .u, .one .u, .one .u, .one .u, .one .u, .one .u, .one .u, .one .u, .one .u, .one .u, .one .u, .one .u, .one .u, .one .u, .one .u, .one .u, .one .u, .one .u, .one .u, .one .u], []⟩) ⟨[.one .u, .one .u, .one .u, .one .s, .one .u, .one .u, .one .u, .one .u, .one .u, .one .u, .one .u, .one .u, .one .u, .one .u, .one .u, .one .u, .one .u, .one .u, .one .u, .one .u, .one .u, .one .u, .one .u, .one .u, .one .u, .one .u, .one .u, .one .u, .one .u, .one .u, .one .u, .one .u, .one .u, .one .u, .one .u, .one .u, .one .u, .one .u, .one .u, .one .u, .one .u, .one .u, .one .u, .one .u, .one .u, .one .u, .one .u, .one .u, .one .u, .one .u, .one .u, .one .u, .one .u, .one .u, .one .u, .one .u, .one .u, .one .u, .one .u, .one .u, .one .u, .one .u, .one .u, .one .u, .one .u, .one .u, .one .u, .one .u, .one .u, .one .u, .one .u, .one .u, .one .u, .one .u, .one .u, .one .u, .one .u, .one .u, .one .u, .one .u, .one .u, .one .u, .one .u, .one .u, .one .u], []⟩)) .n)))))
noncomputable def fi133 : FI := mkFI Tryz.f133 0 [.ct .s] [(false, [.ct .b])] (fun _ => (.s .n (.s (.r [] (some ⟨[.one .u, .one .u, .one .b, .one .u, .one .u, .one .u, .one .u, .one .u, .one .u, .one .u, .one .u, .one .u, .one .u], []⟩)) .n)))
noncomputable def fi141 : FI := mkFI Tryz.f141 0 [.ct .s, .ct .s] [(false, [.ct .s])] (fun _ => .n)
noncomputable def fi142 : FI := mkFI Tryz.f142 0 [.ct .s] [(false, [.ct .b])] (fun _ => (.s .n (.s (.s .n (.b (.b (.s .n (.s .n (.s (.b .n ⟨[.one .s, .one .u, .one .u, .one .u, .one .u, .one (.i .i64), .one (.i .i64), .one .u, .one .u, .one .u, .one .u, .one .u, .one .u, .one .u, .one .u, .one .u, .one .u], []⟩) .n))) ⟨[.one .s, .one .u, .one .u, .one .u, .one .u, .one (.i .i64), .one (.i .i64), .one .u, .one .u, .one .u, .one .u, .one .u, .one .u, .one .u, .one .u, .one .u, .one .u], []⟩) ⟨[.one .s, .one .u, .one .u, .one .u, .one .u, .one .u, .one .u, .one .u, .one .u, .one .u, .one .u, .one .u, .one .u, .one .u, .one .u, .one .u, .one .u], []⟩)) .n)))
noncomputable def fi143 : FI := { mkFI Tryz.f143 0 [.ct .s, .ct .s] [(false, [.ct (.i .i64)])] (fun _ => .n) with prim := some (primH [.s, .s] [.i .i64] qIndexAny) }
noncomputable def fi144 : FI := mkFI Tryz.f144 0 [.ct .s, .ct .s] [(false, [.ct .s]), (false, [.ct .s]), (false, [.ct .b])] (fun _ => .n)
noncomputable def fi145 : FI := mkFI Tryz.f145 0 [.ct .s] [(false, [.ct .b])] (fun _ => .n)
noncomputable def fi146 : FI := mkFI Tryz.f146 0 [.ct .s, .ct (.i .u8)] [(false, [.ct (.i .i64)])] (fun _ => .n)
noncomputable def fi147 : FI := mkFI Tryz.f147 0 [.ct (.sl 9), .fn] [(false, [.ct (.i .i64)])] (fun _ => (.s .n (.s (.s .n (.b (.b (.s .n (.s .n (.s (.b .n ⟨[.one (.sl 9), .one (.fn 127 []), .one .u, .one .u, .one .u, .one .u, .one .u, .one (.i .i64), .one (.i .i64), .one .u, .one .u, .one .u, .one .u, .one .u, .one .u, .one .u, .one .u, .one .u, .one .u], []⟩) .n))) ⟨[.one (.sl 9), .one (.fn 127 []), .one .u, .one .u, .one .u, .one .u, .one .u, .one (.i .i64), .one (.i .i64), .one .u, .one .u, .one .u, .one .u, .one .u, .one .u, .one .u, .one .u, .one .u, .one .u], []⟩) ⟨[.one .u, .one .u, .one .u, .one .u, .one .u, .one .u, .one .u, .one .u, .one .u, .one .u, .one .u, .one .u, .one .u, .one .u, .one .u, .one .u, .one .u, .one .u, .one .u], []⟩)) .n)))
noncomputable def fi114 : FI := mkFI Tryz.f114 1 [.ag [.i .i64, .s, .sl 59, .sl 9]] [(false, [.ct .b])] (fun _ => (.s (.r [0, 0] none) .n))
noncomputable def fi148 : FI := mkFI Tryz.f148 0 [.ct .s] [(false, [.ct (.i .i64)])] (fun _ => (.s .n (.s .n (.s (.s (.r [] (some ⟨[.one .s, .one .u, .one .u, .one (.i .i64), .one .u, .one .u, .one .u, .one .u, .one .u, .one .u, .one .u, .one .u, .one .b, .one .u, .one .u, .one .u, .one .u, .one .u, .one .u, .one .u, .one .u, .one .u, .one .u, .one .u, .one .u, .one .u, .one .u, .one .u, .one .u, .one .u, .one .u, .one .u], []⟩)) (.c .n .n (some ⟨[.one .s, .one .u, .one .u, .one (.i .i64), .one .u, .one .u, .one .u, .one .u, .one .u, .one .u, .one .u, .one .u, .one .u, .one .u, .one .u, .one .u, .one .u, .one .u, .one .u, .one .u, .one .u, .one .u, .one .u, .one .u, .one .u, .one .u, .one .u, .one .u, .one .u, .one .u, .one .u, .one .u], []⟩))) (.s .n (.s (.s (.r [] (some ⟨[.one .u, .one .u, .one .u, .one .u, .one (.i .i64), .one .u, .one .u, .one .u, .one .u, .one .u, .one .u, .one .u, .one .u, .one .u, .one .u, .one .u, .one .u, .one .u, .one .u, .one .u, .one .u, .one .u, .one .u, .one .u, .one .u, .one .u, .one .u, .one .u, .one .u, .one .u, .one .b, .one .u], []⟩)) .n) .n))))))
noncomputable def fi149 : FI := mkFI Tryz.f149 0 [.ct .s, .ct (.i .i64)] [(false, [.ct (.i .i64)])] (fun _ => (.s .n (.s (.b (.b (.s (.s (.r [] (some ⟨[.one .s, .one (.i .i64), .one .u, .one .u, .one .u, .one .u, .one .u, .one .u, .one .u, .one .u, .one .u, .one .u, .one .u, .one .u, .one .b, .one .u, .one .u, .one .u], []⟩)) .n) (.b .n ⟨[.one .s, .one (.i .i64), .one .u, .one .u, .one .u, .one .u, .one .u, .one .u, .one .u, .one .u, .one .u, .one .u, .one .u, .one .u, .one .u, .one .u, .one .u, .one .u], []⟩)) ⟨[.one .s, .one (.i .i64), .one .u, .one .u, .one .u, .one .u, .one .u, .one .u, .one .u, .one .u, .one .u, .one .u, .one .u, .one .u, .one .u, .one .u, .one .u, .one .u], []⟩) ⟨[.one .u, .one (.i .i64), .one .u, .one .u, .one .u, .one .u, .one .u, .one .u, .one .u, .one .u, .one .u, .one .u, .one .u, .one .u, .one .u, .one .u, .one .u, .one .u], []⟩) .n)))
noncomputable def fi150 : FI := mkFI Tryz.f150 0 [.ct .s] [(false, [.ct .b])] (fun _ => (.s .n (.s (.s .n (.b (.b (.s .n (.b .n ⟨[.one .s, .one .u, .one .u, .one (.i .i64), .one .u, .one .u, .one .u, .one .u, .one .u, .one .u, .one .u, .one .u, .one .u, .one .u, .one .u, .one .u, .one .u, .one .u, .one .u, .one .u, .one .u], []⟩)) ⟨[.one .s, .one .u, .one .u, .one (.i .i64), .one .u, .one .u, .one .u, .one .u, .one .u, .one .u, .one .u, .one .u, .one .u, .one .u, .one .u, .one .u, .one .u, .one .u, .one .u, .one .u, .one .u], []⟩) ⟨[.one .u, .one .u, .one .u, .one .u, .one .u, .one .u, .one .u, .one .u, .one .u, .one .u, .one .u, .one .u, .one .u, .one .u, .one .u, .one .u, .one .u, .one .u, .one .u, .one .u, .one .u], []⟩)) .n)))
noncomputable def fi151 : FI := mkFI Tryz.f151 1 [.ct (.i .i64)] [(false, [.ct .s])] (fun _ => (.s .n (.s .n (.s (.r [0, 0, 0, 0, 0, 0, 0, 0, 0, 0, 0, 0, 0, 0, 0, 0, 0, 0, 0, 0, 0, 0] none) .n))))
noncomputable def fi155 : FI := mkFI Tryz.f155 0 [.ct .s, .ct .s] [(false, [.ct .s])] (fun _ => .n)
noncomputable def fi157 : FI := { mkFI Tryz.f157 0 [.ct .s, .ct .s] [(false, [.ct .s]), (false, [.ct .s]), (false, [.ct .b])] (fun _ => .n) with prim := some (primH [.s, .s] [.s, .s, .b] qCut) }
noncomputable def fi158 : FI := { mkFI Tryz.f158 0 [.ct .s] [(false, [.ct .b])] (fun _ => .n) with prim := some (primH [.s] [.b] qValidString) }
noncomputable def fi137 : FI := { mkFI Tryz.f137 0 [.ct .s, .ct (.i .u8)] [(false, [.ct (.i .i64)])] (fun _ => .n) with prim := some (primH [.s, .i .u8] [.i .i64] qIndexByte) }
noncomputable def fi127 : FI := mkFI Tryz.f127 0 [.ct .s] [(false, [.ct .b])] (fun _ => .n)
noncomputable def fi128 : FI := mkFI Tryz.f128 2 [.ag [.i .i64, .s, .sl 59, .sl 9], .ptr] [(false, [.ct .b])] (fun _ => (.s (.r [1, 0] none) .n))
noncomputable def fi159 : FI := mkFI Tryz.f159 0 [.ct .s, .ct (.i .i64)] [(false, [.ct (.i .i64)]), (false, [.ct (.i .i64)])] (fun _ => (.s .n (.s (.s (.r [] (some ⟨[.one .s, .one (.i .i64), .one .u, .one .u, .one .u, .one .u, .one .u, .one .u, .one .u, .one .u, .one .u, .one .u, .one .u, .one .u, .one .u, .one .u, .one .u, .one .u, .one .b, .one .u, .one .u, .one .u, .one .u, .one .u, .one .u, .one .u, .one .u, .one .u, .one .u, .one .u, .one .u, .one .u, .one .u, .one .u, .one .u, .one .u, .one .u, .one .u, .one .u, .one .u, .one .u, .one .u, .one .u, .one .u, .one .u, .one .u, .one .u, .one .u, .one .u, .one .u, .one .u, .one .u, .one .u, .one .u, .one .u, .one .u, .one .u, .one .u, .one .u, .one .u, .one .u, .one .u, .one .u, .one .u, .one .u, .one .u, .one .u, .one .u, .one .u, .one .u, .one .u, .one .u, .one .u, .one .u, .one .u, .one .u, .one .u, .one .u, .one .u, .one .u, .one .u, .one .u, .one .u, .one .u, .one .u, .one .u, .one .u, .one .u, .one .u], []⟩)) .n) (.s .n (.s .n (.s .n (.s (.b (.s .n (.c .n (.s (.r [] (some ⟨[.one .s, .one (.i .i64), .one .u, .one .u, .one .u, .one .u, .one (.i .i64), .one .u, .one .u, .one .u, .one .u, .one .u, .one .u, .one .u, .one .u, .one .u, .one .u, .one .u, .one .u, .one .u, .one .u, .one .u, .one .u, .one .u, .one .u, .one .u, .one .u, .one .b, .one .u, .one .u, .one .u, .one .u, .one .u, .one .u, .one .u, .one .u, .one .u, .one .u, .one .u, .one .u, .one .u, .one .u, .one .u, .one .u, .one .u, .one .u, .one .u, .one .u, .one .u, .one .u, .one .u, .one .u, .one .u, .one .u, .one .u, .one .u, .one .u, .one .u, .one .u, .one .u, .one .u, .one .u, .one .u, .one .u, .one .u, .one .u, .one .u, .one .u, .one .u, .one .u, .one .u, .one .u, .one .u, .one .u, .one .u, .one .u, .one .u, .one .u, .one .u, .one .u, .one .u, .one .u, .one .u, .one .u, .one .u, .one .u, .one .u, .one .u, .one .u], []⟩)) (.c .n (.s (.r [] (some ⟨[.one .s, .one (.i .i64), .one .u, .one .u, .one .u, .one .u, .one (.i .i64), .one .u, .one .u, .one .u, .one .u, .one .u, .one .u, .one .u, .one .u, .one .u, .one .u, .one .u, .one .u, .one .u, .one .u, .one .u, .one .u, .one .u, .one .u, .one .u, .one .u, .one .u, .one .u, .one .u, .one .u, .one .u, .one .u, .one .u, .one .u, .one .u, .one .b, .one .u, .one .u, .one .u, .one .u, .one .u, .one .u, .one .u, .one .u, .one .u, .one .u, .one .u, .one .u, .one .u, .one .u, .one .u, .one .u, .one .u, .one .u, .one .u, .one .u, .one .u, .one .u, .one .u, .one .u, .one .u, .one .u, .one .u, .one .u, .one .u, .one .u, .one .u, .one .u, .one .u, .one .u, .one .u, .one .u, .one .u, .one .u, .one .u, .one .u, .one .u, .one .u, .one .u, .one .u, .one .u, .one .u, .one .u, .one .u, .one .u, .one .u, .one .u, .one .u], []⟩)) (.c .n (.s (.r [] (some ⟨[.one .s, .one (.i .i64), .one .u, .one .u, .one .u, .one .u, .one (.i .i64), .one .u, .one .u, .one .u, .one .u, .one .u, .one .u, .one .u, .one .u, .one .u, .one .u, .one .u, .one .u, .one .u, .one .u, .one .u, .one .u, .one .u, .one .u, .one .u, .one .u, .one .u, .one .u, .one .u, .one .u, .one .u, .one .u, .one .u, .one .u, .one .u, .one .u, .one .u, .one .u, .one .u, .one .u, .one .u, .one .u, .one .u, .one .u, .one .b, .one .u, .one .u, .one .u, .one .u, .one .u, .one .u, .one .u, .one .u, .one .u, .one .u, .one .u, .one .u, .one .u, .one .u, .one .u, .one .u, .one .u, .one .u, .one .u, .one .u, .one .u, .one .u, .one .u, .one .u, .one .u, .one .u, .one .u, .one .u, .one .u, .one .u, .one .u, .one .u, .one .u, .one .u, .one .u, .one .u, .one .u, .one .u, .one .u, .one .u, .one .u, .one .u, .one .u], []⟩)) .n) (some ⟨[.one .s, .one (.i .i64), .one .u, .one .u, .one .u, .one .u, .one .u, .one (.i .i64), .one (.i .i64), .one .u, .one .u, .one .u, .one .u, .one .u, .one .u, .one .u, .one .u, .one .u, .one .u, .one .u, .one .u, .one .u, .one .u, .one .u, .one .u, .one .u, .one .u, .one .u, .one .u, .one .u, .one .u, .one .u, .one .u, .one .u, .one .u, .one .u, .one .u, .one .u, .one .u, .one .u, .one .u, .one .u, .one .u, .one .u, .one .u, .one .u, .one .u, .one .u, .one .u, .one .u, .one .u, .one .u, .one .u, .one .u, .one .u, .one .u, .one .u, .one .u, .one .u, .one .u, .one .u, .one .u, .one .u, .one .u, .one .u, .one .u, .one .u, .one .u, .one .u, .one .u, .one .u, .one .u, .one .u, .one .u, .one .u, .one .u, .one .u, .one .u, .one .u, .one .u, .one .u, .one .u, .one .u, .one .u, .one .u, .one .u, .one .u, .one .u, .one .u], []⟩))) (some ⟨[.one .s, .one (.i .i64), .one .u, .one .u, .one .u, .one .u, .one .u, .one (.i .i64), .one (.i .i64), .one .u, .one .u, .one .u, .one .u, .one .u, .one .u, .one .u, .one .u, .one .u, .one .u, .one .u, .one .u, .one .u, .one .u, .one .u, .one .u, .one .u, .one .u, .one .u, .one .u, .one .u, .one .u, .one .u, .one .u, .one .u, .one .u, .one .u, .one .u, .one .u, .one .u, .one .u, .one .u, .one .u, .one .u, .one .u, .one .u, .one .u, .one .u, .one .u, .one .u, .one .u, .one .u, .one .u, .one .u, .one .u, .one .u, .one .u, .one .u, .one .u, .one .u, .one .u, .one .u, .one .u, .one .u, .one .u, .one .u, .one .u, .one .u, .one .u, .one .u, .one .u, .one .u, .one .u, .one .u, .one .u, .one .u, .one .u, .one .u, .one .u, .one .u, .one .u, .one .u, .one .u, .one .u, .one .u, .one .u, .one .u, .one .u, .one .u, .one .u], []⟩))) none)) ⟨[.one .s, .one (.i .i64), .one .u, .one .u, .one .u, .one .u, .one .u, .one (.i .i64), .one (.i .i64), .one .u, .one .u, .one .u, .one .u, .one .u, .one .u, .one .u, .one .u, .one .u, .one .u, .one .u, .one .u, .one .u, .one .u, .one .u, .one .u, .one .u, .one .u, .one .u, .one .u, .one .u, .one .u, .one .u, .one .u, .one .u, .one .u, .one .u, .one .u, .one .u, .one .u, .one .u, .one .u, .one .u, .one .u, .one .u, .one .u, .one .u, .one .u, .one .u, .one .u, .one .u, .one .u, .one .u, .one .u, .one .u, .one .u, .one .u, .one .u, .one .u, .one .u, .one .u, .one .u, .one .u, .one .u, .one .u, .one .u, .one .u, .one .u, .one .u, .one .u, .one .u, .one .u, .one .u, .one .u, .one .u, .one .u, .one .u, .one .u, .one .u, .one .u, .one .u, .one .u, .one .u, .one .u, .one .u, .one .u, .one .u, .one .u, .one .u, .one .u], []⟩) (.s .n (.s (.s .n (.b (.b (.s .n (.s (.b (.s .n (.s (.s (.r [] (some ⟨[.one .s, .one (.i .i64), .one .u, .one .u, .one .u, .one .u, .one .u, .one (.i .i64), .one (.i .i64), .one (.i .i64), .one (.i .i64), .one .u, .one .u, .one .u, .one .u, .one .u, .one .u, .one .u, .one .u, .one .u, .one .u, .one .u, .one .u, .one .u, .one .u, .one .u, .one .u, .one .u, .one .u, .one .u, .one .u, .one .u, .one .u, .one .u, .one .u, .one .u, .one .u, .one .u, .one .u, .one .u, .one .u, .one .u, .one .u, .one .u, .one .u, .one .u, .one .u, .one .u, .one .u, .one .u, .one .u, .one .u, .one .u, .one .u, .one .u, .one .u, .one .u, .one .u, .one .u, .one .u, .one .u, .one .u, .one .u, .one .u, .one .u, .one .u, .one .u, .one .u, .one .u, .one .u, .one .u, .one .u, .one .u, .one .u, .one .u, .one .u, .one .b, .one .u, .one .u, .one .u, .one .u, .one .u, .one .u, .one .u, .one .u, .one .u, .one .u, .one .u, .one .u], []⟩)) .n) .n)) ⟨[.one .s, .one (.i .i64), .one .u, .one .u, .one .u, .one .u, .one .u, .one (.i .i64), .one (.i .i64), .one (.i .i64), .one .u, .one .u, .one .u, .one .u, .one .u, .one .u, .one .u, .one .u, .one .u, .one .u, .one .u, .one .u, .one .u, .one .u, .one .u, .one .u, .one .u, .one .u, .one .u, .one .u, .one .u, .one .u, .one .u, .one .u, .one .u, .one .u, .one .u, .one .u, .one .u, .one .u, .one .u, .one .u, .one .u, .one .u, .one .u, .one .u, .one .u, .one .u, .one .u, .one .u, .one .u, .one .u, .one .u, .one .u, .one .u, .one .u, .one .u, .one .u, .one .u, .one .u, .one .u, .one .u, .one .u, .one .u, .one .u, .one .u, .one .u, .one .u, .one .u, .one .u, .one .u, .one .u, .one .u, .one .u, .one .u, .one .u, .one .u, .one .u, .one .u, .one .u, .one .u, .one .u, .one .u, .one .u, .one .u, .one .u, .one .u, .one .u, .one .u], []⟩) .n)) ⟨[.one .s, .one (.i .i64), .one .u, .one .u, .one .u, .one .u, .one .u, .one (.i .i64), .one (.i .i64), .one (.i .i64), .one .u, .one .u, .one .u, .one .u, .one .u, .one .u, .one .u, .one .u, .one .u, .one .u, .one .u, .one .u, .one .u, .one .u, .one .u, .one .u, .one .u, .one .u, .one .u, .one .u, .one .u, .one .u, .one .u, .one .u, .one .u, .one .u, .one .u, .one .u, .one .u, .one .u, .one .u, .one .u, .one .u, .one .u, .one .u, .one .u, .one .u, .one .u, .one .u, .one .u, .one .u, .one .u, .one .u, .one .u, .one .u, .one .u, .one .u, .one .u, .one .u, .one .u, .one .u, .one .u, .one .u, .one .u, .one .u, .one .u, .one .u, .one .u, .one .u, .one .u, .one .u, .one .u, .one .u, .one .u, .one .u, .one .u, .one .u, .one .u, .one .u, .one .u, .one .u, .one .u, .one .u, .one .u, .one .u, .one .u, .one .u, .one .u, .one .u], []⟩) ⟨[.one .u, .one .u, .one .u, .one .u, .one .u, .one .u, .one .u, .one (.i .i64), .one (.i .i64), .one .u, .one .u, .one .u, .one .u, .one .u, .one .u, .one .u, .one .u, .one .u, .one .u, .one .u, .one .u, .one .u, .one .u, .one .u, .one .u, .one .u, .one .u, .one .u, .one .u, .one .u, .one .u, .one .u, .one .u, .one .u, .one .u, .one .u, .one .u, .one .u, .one .u, .one .u, .one .u, .one .u, .one .u, .one .u, .one .u, .one .u, .one .u, .one .u, .one .u, .one .u, .one .u, .one .u, .one .u, .one .u, .one .u, .one .u, .one .u, .one .u, .one .u, .one .u, .one .u, .one .u, .one .u, .one .u, .one .u, .one .u, .one .u, .one .u, .one .u, .one .u, .one .u, .one .u, .one .u, .one .u, .one .u, .one .u, .one .u, .one .u, .one .u, .one .u, .one .u, .one .u, .one .u, .one .u, .one .u, .one .u, .one .u, .one .u, .one .u], []⟩)) .n)))))))))
noncomputable def fi160 : FI := mkFI Tryz.f160 0 [.ct .s, .ct .s] [(false, [.ct .b])] (fun _ => (.s .n (.s (.r [] (some ⟨[.one .u, .one .u, .one .u, .one .u, .one .b, .one .u, .one .u, .one .u, .one .u, .one .u, .one .u, .one .u, .one .u, .one .u, .one .u, .one .u, .one .u, .one .u], []⟩)) .n)))
noncomputable def fi94 : FI := mkFI Tryz.f94 1 [.ag [.s, .i .i64, .s, .sl 59, .sl 9]] [(false, [.ct .b])] (fun _ => (.s (.r [0, 0] none) .n))
noncomputable def fi162 : FI := mkFI Tryz.f162 4 [.ct (.i .i64)] [(false, [.ct .s])] (fun _ => (.s .n (.s .n (.s (.b (.s .n (.c (.s (.r [0, 0, 0, 0, 0] none) .n) (.s .n (.c (.s (.r [0, 0, 0, 0, 0, 0, 0, 0, 1, 0, 0] none) .n) (.s .n (.c (.s (.r [0, 0, 0, 0, 0, 0, 0, 0, 0, 0, 0, 0, 0, 2, 0, 0] none) .n) .n none)) none)) none)) ⟨[.one (.i .i64), .one .u, .one .u, .one .u, .one .u, .one .u, .one .u, .one .u, .one .u, .one .u, .one .u, .one .u, .one .u, .one .u, .one .u, .one .u, .one .u, .one .u, .one .u, .one .u, .one .u, .one .u, .one .u, .one .u, .one .u, .one .u, .one .u, .one .u, .one .u, .one .u, .one .u, .one .u, .one .u, .one .u, .one .u, .one .u, .one .u, .one .u, .one .u, .one .u, .one .u, .one .u, .one .u, .one .u, .one .u, .one .u, .one .u, .one .u, .one .u, .one .u, .one .u, .one .u, .one .u, .one .u, .one .u, .one .u, .one .u, .one .u, .one .u, .one .u, .one .u, .one .u, .one .u, .one .u], [.u, .u, .u, .u]⟩) (.s (.r [0, 0, 0, 0, 0, 0, 0, 0, 0, 0, 0, 0, 0, 0, 0, 0, 0, 0, 3, 0, 0] none) .n)))))
noncomputable def fi163 : FI := mkFI Tryz.f163 0 [.ct (.i .i64)] [(false, [.ct .b])] (fun _ => (.s .n (.s (.r [] (some ⟨[.one .u, .one .u, .one .b, .one .u, .one .u, .one .u, .one .u, .one .u, .one .u, .one .u], []⟩)) .n)))
noncomputable def fi164 : FI := mkFI Tryz.f164 0 [.ct (.i .i64), .ct (.i .i64), .ct (.i .i64)] [(false, [.ct .b])] (fun _ => (.s .n (.s (.r [] (some ⟨[.one .u, .one .u, .one .u, .one .u, .one .u, .one .u, .one .b, .one .u, .one .u, .one .u, .one .u, .one .u, .one .u, .one .u, .one .u], []⟩)) .n)))
noncomputable def fnL : List (Nat × FI) := [(3, fi3), (4, fi4), (5, fi5), (6, fi6), (7, fi7), (9, fi9), (8, fi8), (10, fi10), (11, fi11), (12, fi12), (14, fi14), (13, fi13), (15, fi15), (16, fi16), (17, fi17), (19, fi19), (18, fi18), (20, fi20), (21, fi21), (22, fi22), (24, fi24), (23, fi23), (25, fi25), (26, fi26), (27, fi27), (28, fi28), (29, fi29), (32, fi32), (33, fi33), (34, fi34), (30, fi30), (31, fi31), (35, fi35), (36, fi36), (37, fi37), (38, fi38), (39, fi39), (40, fi40), (41, fi41), (42, fi42), (43, fi43), (44, fi44), (45, fi45), (46, fi46), (50, fi50), (51, fi51), (47, fi47), (48, fi48), (49, fi49), (52, fi52), (53, fi53), (54, fi54), (55, fi55), (56, fi56), (57, fi57), (59, fi59), (58, fi58), (60, fi60), (61, fi61), (63, fi63), (64, fi64), (65, fi65), (68, fi68), (69, fi69), (66, fi66), (67, fi67), (70, fi70), (71, fi71), (72, fi72), (73, fi73), (74, fi74), (75, fi75), (76, fi76), (77, fi77), (78, fi78), (80, fi80), (81, fi81), (85, fi85), (86, fi86), (82, fi82), (83, fi83), (84, fi84), (87, fi87), (88, fi88), (89, fi89), (90, fi90), (91, fi91), (95, fi95), (96, fi96), (97, fi97), (93, fi93), (99, fi99), (100, fi100), (101, fi101), (102, fi102), (111, fi111), (112, fi112), (113, fi113), (62, fi62), (115, fi115), (79, fi79), (116, fi116), (122, fi122), (123, fi123), (124, fi124), (125, fi125), (126, fi126), (129, fi129), (92, fi92), (98, fi98), (130, fi130), (131, fi131), (132, fi132), (133, fi133), (141, fi141), (142, fi142), (143, fi143), (144, fi144), (145, fi145), (146, fi146), (147, fi147), (114, fi114), (148, fi148), (149, fi149), (150, fi150), (151, fi151), (155, fi155), (157, fi157), (158, fi158), (137, fi137), (127, fi127), (128, fi128), (159, fi159), (160, fi160), (94, fi94), (162, fi162), (163, fi163), (164, fi164)]
noncomputable def cfg : Cfg := ⟨fun t => look t tyL, fun f => look f fnL⟩
theorem tys : tyB Tryz.prog tyL = true := by kernel_rfl
theorem fns : ∀ x ∈ fnL, FnOk Tryz.prog G cfg.ty x.1 x.2 :=
  all_cons (mkFI_ok Tryz.func3 (by kernel_rfl)) <|
  all_cons (mkFI_ok Tryz.func4 (by kernel_rfl)) <|
  all_cons (mkFI_ok Tryz.func5 (by kernel_rfl)) <|
  all_cons (mkFI_ok Tryz.func6 (by kernel_rfl)) <|
  all_cons (mkFI_ok Tryz.func7 (by kernel_rfl)) <|
  all_cons (mkFI_ok Tryz.func9 (by kernel_rfl)) <|
  all_cons (mkFI_ok Tryz.func8 (by kernel_rfl)) <|
  all_cons (mkFI_ok Tryz.func10 (by kernel_rfl)) <|
  all_cons (mkFI_ok Tryz.func11 (by kernel_rfl)) <|
  all_cons (mkFI_ok Tryz.func12 (by kernel_rfl)) <|
  all_cons (mkFI_ok Tryz.func14 (by kernel_rfl)) <|
  all_cons (mkFI_ok Tryz.func13 (by kernel_rfl)) <|
  all_cons (mkFI_ok Tryz.func15 (by kernel_rfl)) <|
  all_cons (mkFI_ok Tryz.func16 (by kernel_rfl)) <|
  all_cons (mkFI_ok Tryz.func17 (by kernel_rfl)) <|
  all_cons (mkFI_ok Tryz.func19 (by kernel_rfl)) <|
  all_cons (mkFI_ok Tryz.func18 (by kernel_rfl)) <|
  all_cons (mkFI_ok Tryz.func20 (by kernel_rfl)) <|
  all_cons (mkFI_ok Tryz.func21 (by kernel_rfl)) <|
  all_cons (mkFI_ok Tryz.func22 (by kernel_rfl)) <|
  all_cons (mkFI_ok Tryz.func24 (by kernel_rfl)) <|
  all_cons (mkFI_ok Tryz.func23 (by kernel_rfl)) <|
  all_cons (mkFI_ok Tryz.func25 (by kernel_rfl)) <|
  all_cons (mkFI_ok Tryz.func26 (by kernel_rfl)) <|
  all_cons (mkFI_ok Tryz.func27 (by kernel_rfl)) <|
  all_cons (mkFI_ok Tryz.func28 (by kernel_rfl)) <|
  all_cons (mkFI_ok Tryz.func29 (by kernel_rfl)) <|
  all_cons (mkFI_ok Tryz.func32 (by kernel_rfl)) <|
  all_cons (mkFI_ok Tryz.func33 (by kernel_rfl)) <|
  all_cons (mkFI_ok Tryz.func34 (by kernel_rfl)) <|
  all_cons (mkFI_ok Tryz.func30 (by kernel_rfl)) <|
  all_cons (mkFI_ok Tryz.func31 (by kernel_rfl)) <|
  all_cons (mkFI_ok Tryz.func35 (by kernel_rfl)) <|
  all_cons (mkFI_ok Tryz.func36 (by kernel_rfl)) <|
  all_cons (mkFI_ok Tryz.func37 (by kernel_rfl)) <|
  all_cons (mkFI_ok Tryz.func38 (by kernel_rfl)) <|
  all_cons (mkFI_ok Tryz.func39 (by kernel_rfl)) <|
  all_cons (mkFI_ok Tryz.func40 (by kernel_rfl)) <|
  all_cons (mkFI_ok Tryz.func41 (by kernel_rfl)) <|
  all_cons (mkFI_ok Tryz.func42 (by kernel_rfl)) <|
  all_cons (mkFI_ok Tryz.func43 (by kernel_rfl)) <|
  all_cons (mkFI_ok Tryz.func44 (by kernel_rfl)) <|
  all_cons (mkFI_ok Tryz.func45 (by kernel_rfl)) <|
  all_cons (mkFI_ok Tryz.func46 (by kernel_rfl)) <|
  all_cons (mkFI_ok Tryz.func50 (by kernel_rfl)) <|
  all_cons (mkFI_ok Tryz.func51 (by kernel_rfl)) <|
  all_cons (mkFI_ok Tryz.func47 (by kernel_rfl)) <|
  all_cons (mkFI_ok Tryz.func48 (by kernel_rfl)) <|
  all_cons (mkFI_ok Tryz.func49 (by kernel_rfl)) <|
  all_cons (mkFI_ok Tryz.func52 (by kernel_rfl)) <|
  all_cons (mkFI_ok Tryz.func53 (by kernel_rfl)) <|
  all_cons (mkFI_ok Tryz.func54 (by kernel_rfl)) <|
  all_cons (mkFI_ok Tryz.func55 (by kernel_rfl)) <|
  all_cons (mkFI_ok Tryz.func56 (by kernel_rfl)) <|
  all_cons (mkFI_ok Tryz.func57 (by kernel_rfl)) <|
  all_cons (mkFI_ok Tryz.func59 (by kernel_rfl)) <|
  all_cons (mkFI_ok Tryz.func58 (by kernel_rfl)) <|
  all_cons (mkFI_ok Tryz.func60 (by kernel_rfl)) <|
  all_cons (mkFI_ok Tryz.func61 (by kernel_rfl)) <|
  all_cons (mkFI_ok Tryz.func63 (by kernel_rfl)) <|
  all_cons (mkFI_ok Tryz.func64 (by kernel_rfl)) <|
  all_cons (mkFI_ok Tryz.func65 (by kernel_rfl)) <|
  all_cons (mkFI_ok Tryz.func68 (by kernel_rfl)) <|
  all_cons (mkFI_ok Tryz.func69 (by kernel_rfl)) <|
  all_cons (mkFI_ok Tryz.func66 (by kernel_rfl)) <|
  all_cons (mkFI_ok Tryz.func67 (by kernel_rfl)) <|
  all_cons (mkFI_ok Tryz.func70 (by kernel_rfl)) <|
  all_cons (mkFI_ok Tryz.func71 (by kernel_rfl)) <|
  all_cons (mkFI_ok Tryz.func72 (by kernel_rfl)) <|
  all_cons (mkFI_ok Tryz.func73 (by kernel_rfl)) <|
  all_cons (mkFI_ok Tryz.func74 (by kernel_rfl)) <|
  all_cons (mkFI_ok Tryz.func75 (by kernel_rfl)) <|
  all_cons (mkFI_ok Tryz.func76 (by kernel_rfl)) <|
  all_cons (mkFI_ok Tryz.func77 (by kernel_rfl)) <|
  all_cons (mkFI_ok Tryz.func78 (by kernel_rfl)) <|
  all_cons (mkFI_ok Tryz.func80 (by kernel_rfl)) <|
  all_cons (mkFI_ok Tryz.func81 (by kernel_rfl)) <|
  all_cons (mkFI_ok Tryz.func85 (by kernel_rfl)) <|
  all_cons (mkFI_ok Tryz.func86 (by kernel_rfl)) <|
  all_cons (mkFI_ok Tryz.func82 (by kernel_rfl)) <|
  all_cons (mkFI_ok Tryz.func83 (by kernel_rfl)) <|
  all_cons (mkFI_ok Tryz.func84 (by kernel_rfl)) <|
  all_cons (prim_lit (cts := [.s, .s]) (rcts := [.s]) Tryz.func87 (by kernel_rfl) (by kernel_rfl) (by kernel_rfl) rfl call_Trim) <|
  all_cons (prim_lit (cts := [.s, .s]) (rcts := [.b]) Tryz.func88 (by kernel_rfl) (by kernel_rfl) (by kernel_rfl) rfl call_Contains) <|
  all_cons (mkFI_ok Tryz.func89 (by kernel_rfl)) <|
  all_cons (mkFI_ok Tryz.func90 (by kernel_rfl)) <|
  all_cons (mkFI_ok Tryz.func91 (by kernel_rfl)) <|
  all_cons (mkFI_ok Tryz.func95 (by kernel_rfl)) <|
  all_cons (mkFI_ok Tryz.func96 (by kernel_rfl)) <|
  all_cons (mkFI_ok Tryz.func97 (by kernel_rfl)) <|
  all_cons (mkFI_ok Tryz.func93 (by kernel_rfl)) <|
  all_cons (mkFI_ok Tryz.func99 (by kernel_rfl)) <|
  all_cons (mkFI_ok Tryz.func100 (by kernel_rfl)) <|
  all_cons (mkFI_ok Tryz.func101 (by kernel_rfl)) <|
  all_cons (mkFI_ok Tryz.func102 (by kernel_rfl)) <|
  all_cons (mkFI_ok Tryz.func111 (by kernel_rfl)) <|
  all_cons (mkFI_ok Tryz.func112 (by kernel_rfl)) <|
  all_cons (mkFI_ok Tryz.func113 (by kernel_rfl)) <|
  all_cons (mkFI_ok Tryz.func62 (by kernel_rfl)) <|
  all_cons (mkFI_ok Tryz.func115 (by kernel_rfl)) <|
  all_cons (mkFI_ok Tryz.func79 (by kernel_rfl)) <|
  all_cons (mkFI_ok Tryz.func116 (by kernel_rfl)) <|
  all_cons (mkFI_ok Tryz.func122 (by kernel_rfl)) <|
  all_cons (mkFI_ok Tryz.func123 (by kernel_rfl)) <|
  all_cons (mkFI_ok Tryz.func124 (by kernel_rfl)) <|
  all_cons (mkFI_ok Tryz.func125 (by kernel_rfl)) <|
  all_cons (mkFI_ok Tryz.func126 (by kernel_rfl)) <|
  all_cons (mkFI_ok Tryz.func129 (by kernel_rfl)) <|
  all_cons (mkFI_ok Tryz.func92 (by kernel_rfl)) <|
  all_cons (mkFI_ok Tryz.func98 (by kernel_rfl)) <|
  all_cons (mkFI_ok Tryz.func130 (by kernel_rfl)) <|
  all_cons (mkFI_ok Tryz.func131 (by kernel_rfl)) <|
  all_cons (mkFI_ok Tryz.func132 (by kernel_rfl)) <|
  all_cons (mkFI_ok Tryz.func133 (by kernel_rfl)) <|
  all_cons (mkFI_ok Tryz.func141 (by kernel_rfl)) <|
  all_cons (mkFI_ok Tryz.func142 (by kernel_rfl)) <|
  all_cons (prim_lit (cts := [.s, .s]) (rcts := [.i .i64]) Tryz.func143 (by kernel_rfl) (by kernel_rfl) (by kernel_rfl) rfl call_IndexAny) <|
  all_cons (mkFI_ok Tryz.func144 (by kernel_rfl)) <|
  all_cons (mkFI_ok Tryz.func145 (by kernel_rfl)) <|
  all_cons (mkFI_ok Tryz.func146 (by kernel_rfl)) <|
  all_cons (mkFI_ok Tryz.func147 (by kernel_rfl)) <|
  all_cons (mkFI_ok Tryz.func114 (by kernel_rfl)) <|
  all_cons (mkFI_ok Tryz.func148 (by kernel_rfl)) <|
  all_cons (mkFI_ok Tryz.func149 (by kernel_rfl)) <|
  all_cons (mkFI_ok Tryz.func150 (by kernel_rfl)) <|
  all_cons (mkFI_ok Tryz.func151 (by kernel_rfl)) <|
  all_cons (mkFI_ok Tryz.func155 (by kernel_rfl)) <|
  all_cons (prim_lit (cts := [.s, .s]) (rcts := [.s, .s, .b]) Tryz.func157 (by kernel_rfl) (by kernel_rfl) (by kernel_rfl) rfl call_Cut) <|
  all_cons (prim_lit (cts := [.s]) (rcts := [.b]) Tryz.func158 (by kernel_rfl) (by kernel_rfl) (by kernel_rfl) rfl call_ValidString) <|
  all_cons (prim_lit (cts := [.s, .i .u8]) (rcts := [.i .i64]) Tryz.func137 (by kernel_rfl) (by kernel_rfl) (by kernel_rfl) rfl call_IndexByte) <|
  all_cons (mkFI_ok Tryz.func127 (by kernel_rfl)) <|
  all_cons (mkFI_ok Tryz.func128 (by kernel_rfl)) <|
  all_cons (mkFI_ok Tryz.func159 (by kernel_rfl)) <|
  all_cons (mkFI_ok Tryz.func160 (by kernel_rfl)) <|
  all_cons (mkFI_ok Tryz.func94 (by kernel_rfl)) <|
  all_cons (mkFI_ok Tryz.func162 (by kernel_rfl)) <|
  all_cons (mkFI_ok Tryz.func163 (by kernel_rfl)) <|
  all_cons (mkFI_ok Tryz.func164 (by kernel_rfl)) <| all_nil
/-- loop.example/g00964/laws.FnExactSelOk -/
noncomputable def r_laws_FnExactSelOk (a : List DC) : Out := Run cfg 3 h_laws_FnExactSelOk a
/-- loop.example/g00964/laws.FnExactFragOk -/
noncomputable def r_laws_FnExactFragOk (a : List DC) : Out := Run cfg 4 h_laws_FnExactFragOk a
/-- loop.example/g00964/laws.FnExactVarDefOk -/
noncomputable def r_laws_FnExactVarDefOk (a : List DC) : Out := Run cfg 5 h_laws_FnExactVarDefOk a
/-- loop.example/g00964/laws.FnExactOpOk -/
noncomputable def r_laws_FnExactOpOk (a : List DC) : Out := Run cfg 6 h_laws_FnExactOpOk a
/-- loop.example/g00964/laws.szSel -/
noncomputable def r_laws_szSel (a : List DC) : Out := Run cfg 7 h_laws_szSel a
/-- loop.example/g00964/laws.toSel -/
noncomputable def r_laws_toSel (a : List DC) : Out := Run cfg 9 h_laws_toSel a
/-- loop.example/g00964/spec.SelOk -/
noncomputable def r_spec_SelOk (a : List DC) : Out := Run cfg 8 h_spec_SelOk a
/-- loop.example/g00964/impl.SelOk -/
noncomputable def r_impl_SelOk (a : List DC) : Out := Run cfg 10 h_impl_SelOk a
/-- loop.example/g00964/laws.eqSel -/
noncomputable def r_laws_eqSel (a : List DC) : Out := Run cfg 11 h_laws_eqSel a
/-- loop.example/g00964/laws.szFrag -/
noncomputable def r_laws_szFrag (a : List DC) : Out := Run cfg 12 h_laws_szFrag a
/-- loop.example/g00964/laws.toFrag -/
noncomputable def r_laws_toFrag (a : List DC) : Out := Run cfg 14 h_laws_toFrag a
/-- loop.example/g00964/spec.FragOk -/
noncomputable def r_spec_FragOk (a : List DC) : Out := Run cfg 13 h_spec_FragOk a
/-- loop.example/g00964/impl.FragOk -/
noncomputable def r_impl_FragOk (a : List DC) : Out := Run cfg 15 h_impl_FragOk a
/-- loop.example/g00964/laws.eqFrag -/
noncomputable def r_laws_eqFrag (a : List DC) : Out := Run cfg 16 h_laws_eqFrag a
/-- loop.example/g00964/laws.szVarDef -/
noncomputable def r_laws_szVarDef (a : List DC) : Out := Run cfg 17 h_laws_szVarDef a
/-- loop.example/g00964/laws.toVarDef -/
noncomputable def r_laws_toVarDef (a : List DC) : Out := Run cfg 19 h_laws_toVarDef a
/-- loop.example/g00964/spec.VarDefOk -/
noncomputable def r_spec_VarDefOk (a : List DC) : Out := Run cfg 18 h_spec_VarDefOk a
/-- loop.example/g00964/impl.VarDefOk -/
noncomputable def r_impl_VarDefOk (a : List DC) : Out := Run cfg 20 h_impl_VarDefOk a
/-- loop.example/g00964/laws.eqVarDef -/
noncomputable def r_laws_eqVarDef (a : List DC) : Out := Run cfg 21 h_laws_eqVarDef a
/-- loop.example/g00964/laws.szOp -/
noncomputable def r_laws_szOp (a : List DC) : Out := Run cfg 22 h_laws_szOp a
/-- loop.example/g00964/laws.toOp -/
noncomputable def r_laws_toOp (a : List DC) : Out := Run cfg 24 h_laws_toOp a
/-- loop.example/g00964/spec.OpOk -/
noncomputable def r_spec_OpOk (a : List DC) : Out := Run cfg 23 h_spec_OpOk a
/-- loop.example/g00964/impl.OpOk -/
noncomputable def r_impl_OpOk (a : List DC) : Out := Run cfg 25 h_impl_OpOk a
/-- loop.example/g00964/laws.eqOp -/
noncomputable def r_laws_eqOp (a : List DC) : Out := Run cfg 26 h_laws_eqOp a
/-- loop.example/g00964/laws.szArgS -/
noncomputable def r_laws_szArgS (a : List DC) : Out := Run cfg 27 h_laws_szArgS a
/-- loop.example/g00964/laws.szDirS -/
noncomputable def r_laws_szDirS (a : List DC) : Out := Run cfg 28 h_laws_szDirS a
/-- loop.example/g00964/laws.szSelS -/
noncomputable def r_laws_szSelS (a : List DC) : Out := Run cfg 29 h_laws_szSelS a
/-- loop.example/g00964/laws.toArgS -/
noncomputable def r_laws_toArgS (a : List DC) : Out := Run cfg 32 h_laws_toArgS a
/-- loop.example/g00964/laws.toDirS -/
noncomputable def r_laws_toDirS (a : List DC) : Out := Run cfg 33 h_laws_toDirS a
/-- loop.example/g00964/laws.toSelS -/
noncomputable def r_laws_toSelS (a : List DC) : Out := Run cfg 34 h_laws_toSelS a
/-- loop.example/g00964/spec.l11Count -/
noncomputable def r_spec_l11Count (a : List DC) : Out := Run cfg 30 h_spec_l11Count a
/-- loop.example/g00964/spec.l11Right -/
noncomputable def r_spec_l11Right (a : List DC) : Out := Run cfg 31 h_spec_l11Right a
/-- (*loop.example/g00964/impl.bound).selOk -/
noncomputable def r_impl_bound_selOk (a : List DC) : Out := Run cfg 35 h_impl_bound_selOk a
/-- loop.example/g00964/laws.eqArgS -/
noncomputable def r_laws_eqArgS (a : List DC) : Out := Run cfg 36 h_laws_eqArgS a
/-- loop.example/g00964/laws.eqDirS -/
noncomputable def r_laws_eqDirS (a : List DC) : Out := Run cfg 37 h_laws_eqDirS a
/-- loop.example/g00964/laws.eqSelS -/
noncomputable def r_laws_eqSelS (a : List DC) : Out := Run cfg 38 h_laws_eqSelS a
/-- loop.example/g00964/spec.NameOk -/
noncomputable def r_spec_NameOk (a : List DC) : Out := Run cfg 39 h_spec_NameOk a
/-- loop.example/g00964/spec.DirsOk -/
noncomputable def r_spec_DirsOk (a : List DC) : Out := Run cfg 40 h_spec_DirsOk a
/-- loop.example/g00964/spec.l11Ok -/
noncomputable def r_spec_l11Ok (a : List DC) : Out := Run cfg 41 h_spec_l11Ok a
/-- loop.example/g00964/impl.NameOk -/
noncomputable def r_impl_NameOk (a : List DC) : Out := Run cfg 42 h_impl_NameOk a
/-- loop.example/g00964/impl.DirsOk -/
noncomputable def r_impl_DirsOk (a : List DC) : Out := Run cfg 43 h_impl_DirsOk a
/-- loop.example/g00964/impl.selsOk -/
noncomputable def r_impl_selsOk (a : List DC) : Out := Run cfg 44 h_impl_selsOk a
/-- loop.example/g00964/laws.szType -/
noncomputable def r_laws_szType (a : List DC) : Out := Run cfg 45 h_laws_szType a
/-- loop.example/g00964/laws.szValue -/
noncomputable def r_laws_szValue (a : List DC) : Out := Run cfg 46 h_laws_szValue a
/-- loop.example/g00964/laws.toType -/
noncomputable def r_laws_toType (a : List DC) : Out := Run cfg 50 h_laws_toType a
/-- loop.example/g00964/laws.toValue -/
noncomputable def r_laws_toValue (a : List DC) : Out := Run cfg 51 h_laws_toValue a
/-- loop.example/g00964/spec.TypeOk -/
noncomputable def r_spec_TypeOk (a : List DC) : Out := Run cfg 47 h_spec_TypeOk a
/-- loop.example/g00964/spec.l12Default -/
noncomputable def r_spec_l12Default (a : List DC) : Out := Run cfg 48 h_spec_l12Default a
/-- loop.example/g00964/spec.l12Consts -/
noncomputable def r_spec_l12Consts (a : List DC) : Out := Run cfg 49 h_spec_l12Consts a
/-- loop.example/g00964/impl.TypeOk -/
noncomputable def r_impl_TypeOk (a : List DC) : Out := Run cfg 52 h_impl_TypeOk a
/-- loop.example/g00964/impl.defaultOk -/
noncomputable def r_impl_defaultOk (a : List DC) : Out := Run cfg 53 h_impl_defaultOk a
/-- loop.example/g00964/impl.constDirs -/
noncomputable def r_impl_constDirs (a : List DC) : Out := Run cfg 54 h_impl_constDirs a
/-- loop.example/g00964/laws.eqType -/
noncomputable def r_laws_eqType (a : List DC) : Out := Run cfg 55 h_laws_eqType a
/-- loop.example/g00964/laws.eqValue -/
noncomputable def r_laws_eqValue (a : List DC) : Out := Run cfg 56 h_laws_eqValue a
/-- loop.example/g00964/laws.szVarDefS -/
noncomputable def r_laws_szVarDefS (a : List DC) : Out := Run cfg 57 h_laws_szVarDefS a
/-- loop.example/g00964/laws.toVarDefS -/
noncomputable def r_laws_toVarDefS (a : List DC) : Out := Run cfg 59 h_laws_toVarDefS a
/-- loop.example/g00964/spec.OpWord -/
noncomputable def r_spec_OpWord (a : List DC) : Out := Run cfg 58 h_spec_OpWord a
/-- loop.example/g00964/impl.OpWord -/
noncomputable def r_impl_OpWord (a : List DC) : Out := Run cfg 60 h_impl_OpWord a
/-- slices.ContainsFunc[[]loop.example/g00964/impl.VarDef,loop.example/g00964/impl.VarDef] -/
noncomputable def r_slices_ContainsFunc_impl_VarDef__impl_OpOk_1 (a : List DC) : Out := Run cfg 61 h_slices_ContainsFunc_impl_VarDef__impl_OpOk_1 a
/-- loop.example/g00964/laws.eqVarDefS -/
noncomputable def r_laws_eqVarDefS (a : List DC) : Out := Run cfg 63 h_laws_eqVarDefS a
/-- loop.example/g00964/laws.szArg -/
noncomputable def r_laws_szArg (a : List DC) : Out := Run cfg 64 h_laws_szArg a
/-- loop.example/g00964/laws.szDir -/
noncomputable def r_laws_szDir (a : List DC) : Out := Run cfg 65 h_laws_szDir a
/-- loop.example/g00964/laws.toArg -/
noncomputable def r_laws_toArg (a : List DC) : Out := Run cfg 68 h_laws_toArg a
/-- loop.example/g00964/laws.toDir -/
noncomputable def r_laws_toDir (a : List DC) : Out := Run cfg 69 h_laws_toDir a
/-- loop.example/g00964/spec.l11Names -/
noncomputable def r_spec_l11Names (a : List DC) : Out := Run cfg 66 h_spec_l11Names a
/-- loop.example/g00964/spec.ArgsOk -/
noncomputable def r_spec_ArgsOk (a : List DC) : Out := Run cfg 67 h_spec_ArgsOk a
/-- loop.example/g00964/impl.ArgsOk -/
noncomputable def r_impl_ArgsOk (a : List DC) : Out := Run cfg 70 h_impl_ArgsOk a
/-- loop.example/g00964/laws.eqArg -/
noncomputable def r_laws_eqArg (a : List DC) : Out := Run cfg 71 h_laws_eqArg a
/-- loop.example/g00964/laws.eqDir -/
noncomputable def r_laws_eqDir (a : List DC) : Out := Run cfg 72 h_laws_eqDir a
/-- loop.example/g00964/spec.l03Figure -/
noncomputable def r_spec_l03Figure (a : List DC) : Out := Run cfg 73 h_spec_l03Figure a
/-- loop.example/g00964/spec.l03Letter -/
noncomputable def r_spec_l03Letter (a : List DC) : Out := Run cfg 74 h_spec_l03Letter a
/-- loop.example/g00964/impl.in -/
noncomputable def r_impl_in (a : List DC) : Out := Run cfg 75 h_impl_in a
/-- loop.example/g00964/impl.isFigure -/
noncomputable def r_impl_isFigure (a : List DC) : Out := Run cfg 76 h_impl_isFigure a
/-- loop.example/g00964/impl.inName -/
noncomputable def r_impl_inName (a : List DC) : Out := Run cfg 77 h_impl_inName a
/-- slices.ContainsFunc[[]loop.example/g00964/impl.Dir,loop.example/g00964/impl.Dir] -/
noncomputable def r_slices_ContainsFunc_impl_Dir__impl_DirsOk_1 (a : List DC) : Out := Run cfg 78 h_slices_ContainsFunc_impl_Dir__impl_DirsOk_1 a
/-- loop.example/g00964/laws.szValueS -/
noncomputable def r_laws_szValueS (a : List DC) : Out := Run cfg 80 h_laws_szValueS a
/-- loop.example/g00964/laws.szStringS -/
noncomputable def r_laws_szStringS (a : List DC) : Out := Run cfg 81 h_laws_szStringS a
/-- loop.example/g00964/laws.toValueS -/
noncomputable def r_laws_toValueS (a : List DC) : Out := Run cfg 85 h_laws_toValueS a
/-- loop.example/g00964/laws.toStringS -/
noncomputable def r_laws_toStringS (a : List DC) : Out := Run cfg 86 h_laws_toStringS a
/-- loop.example/g00964/spec.ValueOk -/
noncomputable def r_spec_ValueOk (a : List DC) : Out := Run cfg 82 h_spec_ValueOk a
/-- loop.example/g00964/spec.IsConst -/
noncomputable def r_spec_IsConst (a : List DC) : Out := Run cfg 83 h_spec_IsConst a
/-- loop.example/g00964/spec.SameValue -/
noncomputable def r_spec_SameValue (a : List DC) : Out := Run cfg 84 h_spec_SameValue a
/-- strings.Trim -/
noncomputable def r_strings_Trim (a : List DC) : Out := Run cfg 87 h_strings_Trim a
/-- strings.Contains -/
noncomputable def r_strings_Contains (a : List DC) : Out := Run cfg 88 h_strings_Contains a
/-- loop.example/g00964/impl.emptyValue -/
noncomputable def r_impl_emptyValue (a : List DC) : Out := Run cfg 89 h_impl_emptyValue a
/-- loop.example/g00964/impl.ValueOk -/
noncomputable def r_impl_ValueOk (a : List DC) : Out := Run cfg 90 h_impl_ValueOk a
/-- loop.example/g00964/impl.IsConst -/
noncomputable def r_impl_IsConst (a : List DC) : Out := Run cfg 91 h_impl_IsConst a
/-- slices.ContainsFunc[[]loop.example/g00964/impl.Dir,loop.example/g00964/impl.Dir] -/
noncomputable def r_slices_ContainsFunc_impl_Dir__impl_constDirs_1 (a : List DC) : Out := Run cfg 78 h_slices_ContainsFunc_impl_Dir__impl_constDirs_1 a
/-- loop.example/g00964/laws.eqValueS -/
noncomputable def r_laws_eqValueS (a : List DC) : Out := Run cfg 95 h_laws_eqValueS a
/-- loop.example/g00964/laws.eqStringS -/
noncomputable def r_laws_eqStringS (a : List DC) : Out := Run cfg 96 h_laws_eqStringS a
/-- slices.IndexFunc[[]loop.example/g00964/impl.VarDef,loop.example/g00964/impl.VarDef] -/
noncomputable def r_slices_IndexFunc_impl_VarDef__impl_OpOk_1 (a : List DC) : Out := Run cfg 97 h_slices_IndexFunc_impl_VarDef__impl_OpOk_1 a
/-- slices.ContainsFunc[[]loop.example/g00964/impl.Arg,loop.example/g00964/impl.Arg] -/
noncomputable def r_slices_ContainsFunc_impl_Arg__impl_ArgsOk_1 (a : List DC) : Out := Run cfg 93 h_slices_ContainsFunc_impl_Arg__impl_ArgsOk_1 a
/-- loop.example/g00964/impl.isLetter -/
noncomputable def r_impl_isLetter (a : List DC) : Out := Run cfg 99 h_impl_isLetter a
/-- slices.IndexFunc[[]loop.example/g00964/impl.Dir,loop.example/g00964/impl.Dir] -/
noncomputable def r_slices_IndexFunc_impl_Dir__impl_DirsOk_1 (a : List DC) : Out := Run cfg 100 h_slices_IndexFunc_impl_Dir__impl_DirsOk_1 a
/-- loop.example/g00964/spec.l07Right -/
noncomputable def r_spec_l07Right (a : List DC) : Out := Run cfg 101 h_spec_l07Right a
/-- loop.example/g00964/spec.l07Const -/
noncomputable def r_spec_l07Const (a : List DC) : Out := Run cfg 102 h_spec_l07Const a
/-- loop.example/g00964/impl.plain -/
noncomputable def r_impl_plain (a : List DC) : Out := Run cfg 111 h_impl_plain a
/-- loop.example/g00964/impl.valueOk -/
noncomputable def r_impl_valueOk (a : List DC) : Out := Run cfg 112 h_impl_valueOk a
/-- slices.ContainsFunc[[]loop.example/g00964/impl.Value,loop.example/g00964/impl.Value] -/
noncomputable def r_slices_ContainsFunc_impl_Value__impl_IsConst_1 (a : List DC) : Out := Run cfg 113 h_slices_ContainsFunc_impl_Value__impl_IsConst_1 a
/-- slices.IndexFunc[[]loop.example/g00964/impl.Dir,loop.example/g00964/impl.Dir] -/
noncomputable def r_slices_IndexFunc_impl_Dir__impl_constDirs_1 (a : List DC) : Out := Run cfg 100 h_slices_IndexFunc_impl_Dir__impl_constDirs_1 a
/-- loop.example/g00964/impl.OpOk$1 -/
noncomputable def r_impl_OpOk_1 (a : List DC) : Out := Run cfg 62 h_impl_OpOk_1 a
/-- slices.IndexFunc[[]loop.example/g00964/impl.Arg,loop.example/g00964/impl.Arg] -/
noncomputable def r_slices_IndexFunc_impl_Arg__impl_ArgsOk_1 (a : List DC) : Out := Run cfg 115 h_slices_IndexFunc_impl_Arg__impl_ArgsOk_1 a
/-- loop.example/g00964/impl.DirsOk$1 -/
noncomputable def r_impl_DirsOk_1 (a : List DC) : Out := Run cfg 79 h_impl_DirsOk_1 a
/-- loop.example/g00964/spec.l07One -/
noncomputable def r_spec_l07One (a : List DC) : Out := Run cfg 116 h_spec_l07One a
/-- loop.example/g00964/impl.IntOk -/
noncomputable def r_impl_IntOk (a : List DC) : Out := Run cfg 122 h_impl_IntOk a
/-- loop.example/g00964/impl.FloatOk -/
noncomputable def r_impl_FloatOk (a : List DC) : Out := Run cfg 123 h_impl_FloatOk a
/-- loop.example/g00964/impl.Escaped -/
noncomputable def r_impl_Escaped (a : List DC) : Out := Run cfg 124 h_impl_Escaped a
/-- loop.example/g00964/impl.Word -/
noncomputable def r_impl_Word (a : List DC) : Out := Run cfg 125 h_impl_Word a
/-- slices.ContainsFunc[[]string,string] -/
noncomputable def r_slices_ContainsFunc_string__impl_valueOk_1 (a : List DC) : Out := Run cfg 126 h_slices_ContainsFunc_string__impl_valueOk_1 a
/-- slices.ContainsFunc[[]loop.example/g00964/impl.Value,loop.example/g00964/impl.Value] -/
noncomputable def r_slices_ContainsFunc_impl_Value__impl_valueOk_2 (a : List DC) : Out := Run cfg 113 h_slices_ContainsFunc_impl_Value__impl_valueOk_2 a
/-- slices.IndexFunc[[]loop.example/g00964/impl.Value,loop.example/g00964/impl.Value] -/
noncomputable def r_slices_IndexFunc_impl_Value__impl_IsConst_1 (a : List DC) : Out := Run cfg 129 h_slices_IndexFunc_impl_Value__impl_IsConst_1 a
/-- loop.example/g00964/impl.constDirs$1 -/
noncomputable def r_impl_constDirs_1 (a : List DC) : Out := Run cfg 92 h_impl_constDirs_1 a
/-- loop.example/g00964/impl.ArgsOk$1 -/
noncomputable def r_impl_ArgsOk_1 (a : List DC) : Out := Run cfg 98 h_impl_ArgsOk_1 a
/-- loop.example/g00964/spec.IntOk -/
noncomputable def r_spec_IntOk (a : List DC) : Out := Run cfg 130 h_spec_IntOk a
/-- loop.example/g00964/spec.FloatOk -/
noncomputable def r_spec_FloatOk (a : List DC) : Out := Run cfg 131 h_spec_FloatOk a
/-- loop.example/g00964/spec.Escaped -/
noncomputable def r_spec_Escaped (a : List DC) : Out := Run cfg 132 h_spec_Escaped a
/-- loop.example/g00964/spec.Word -/
noncomputable def r_spec_Word (a : List DC) : Out := Run cfg 133 h_spec_Word a
/-- strings.TrimPrefix -/
noncomputable def r_strings_TrimPrefix (a : List DC) : Out := Run cfg 141 h_strings_TrimPrefix a
/-- loop.example/g00964/impl.figures -/
noncomputable def r_impl_figures (a : List DC) : Out := Run cfg 142 h_impl_figures a
/-- strings.IndexAny -/
noncomputable def r_strings_IndexAny (a : List DC) : Out := Run cfg 143 h_strings_IndexAny a
/-- strings.Cut -/
noncomputable def r_strings_Cut (a : List DC) : Out := Run cfg 144 h_strings_Cut a
/-- loop.example/g00964/impl.TextOk -/
noncomputable def r_impl_TextOk (a : List DC) : Out := Run cfg 145 h_impl_TextOk a
/-- strings.IndexByte -/
noncomputable def r_strings_IndexByte (a : List DC) : Out := Run cfg 146 h_strings_IndexByte a
/-- slices.IndexFunc[[]string,string] -/
noncomputable def r_slices_IndexFunc_string__impl_valueOk_1 (a : List DC) : Out := Run cfg 147 h_slices_IndexFunc_string__impl_valueOk_1 a
/-- slices.IndexFunc[[]loop.example/g00964/impl.Value,loop.example/g00964/impl.Value] -/
noncomputable def r_slices_IndexFunc_impl_Value__impl_valueOk_2 (a : List DC) : Out := Run cfg 129 h_slices_IndexFunc_impl_Value__impl_valueOk_2 a
/-- loop.example/g00964/impl.IsConst$1 -/
noncomputable def r_impl_IsConst_1 (a : List DC) : Out := Run cfg 114 h_impl_IsConst_1 a
/-- slices.ContainsFunc[[]loop.example/g00964/impl.Arg,loop.example/g00964/impl.Arg] -/
noncomputable def r_slices_ContainsFunc_impl_Arg__impl_constDirs_1_1 (a : List DC) : Out := Run cfg 93 h_slices_ContainsFunc_impl_Arg__impl_constDirs_1_1 a
/-- loop.example/g00964/spec.l03Int -/
noncomputable def r_spec_l03Int (a : List DC) : Out := Run cfg 148 h_spec_l03Int a
/-- loop.example/g00964/spec.l03Run -/
noncomputable def r_spec_l03Run (a : List DC) : Out := Run cfg 149 h_spec_l03Run a
/-- loop.example/g00964/spec.TextOk -/
noncomputable def r_spec_TextOk (a : List DC) : Out := Run cfg 150 h_spec_TextOk a
/-- loop.example/g00964/spec.l04Hex4 -/
noncomputable def r_spec_l04Hex4 (a : List DC) : Out := Run cfg 151 h_spec_l04Hex4 a
/-- internal/stringslite.TrimPrefix -/
noncomputable def r_internal_stringslite_TrimPrefix (a : List DC) : Out := Run cfg 155 h_internal_stringslite_TrimPrefix a
/-- internal/stringslite.Cut -/
noncomputable def r_internal_stringslite_Cut (a : List DC) : Out := Run cfg 157 h_internal_stringslite_Cut a
/-- unicode/utf8.ValidString -/
noncomputable def r_unicode_utf8_ValidString (a : List DC) : Out := Run cfg 158 h_unicode_utf8_ValidString a
/-- internal/stringslite.IndexByte -/
noncomputable def r_internal_stringslite_IndexByte (a : List DC) : Out := Run cfg 137 h_internal_stringslite_IndexByte a
/-- loop.example/g00964/impl.valueOk$1 -/
noncomputable def r_impl_valueOk_1 (a : List DC) : Out := Run cfg 127 h_impl_valueOk_1 a
/-- loop.example/g00964/impl.valueOk$2 -/
noncomputable def r_impl_valueOk_2 (a : List DC) : Out := Run cfg 128 h_impl_valueOk_2 a
/-- slices.IndexFunc[[]loop.example/g00964/impl.Arg,loop.example/g00964/impl.Arg] -/
noncomputable def r_slices_IndexFunc_impl_Arg__impl_constDirs_1_1 (a : List DC) : Out := Run cfg 115 h_slices_IndexFunc_impl_Arg__impl_constDirs_1_1 a
/-- loop.example/g00964/spec.RuneAt -/
noncomputable def r_spec_RuneAt (a : List DC) : Out := Run cfg 159 h_spec_RuneAt a
/-- internal/stringslite.HasPrefix -/
noncomputable def r_internal_stringslite_HasPrefix (a : List DC) : Out := Run cfg 160 h_internal_stringslite_HasPrefix a
/-- loop.example/g00964/impl.constDirs$1$1 -/
noncomputable def r_impl_constDirs_1_1 (a : List DC) : Out := Run cfg 94 h_impl_constDirs_1_1 a
/-- loop.example/g00964/spec.RuneText -/
noncomputable def r_spec_RuneText (a : List DC) : Out := Run cfg 162 h_spec_RuneText a
/-- loop.example/g00964/spec.l02Scalar -/
noncomputable def r_spec_l02Scalar (a : List DC) : Out := Run cfg 163 h_spec_l02Scalar a
/-- loop.example/g00964/spec.l01In -/
noncomputable def r_spec_l01In (a : List DC) : Out := Run cfg 164 h_spec_l01In a
end Go.Proofs.YtgmfpgbgknlojaaGreatDoorV
