import Derived.Test.YtljggmbgbnmapaaDoorMS4
import Derived.WalkKit
import Derived.ProofKit
import Derived.OpenShut
import Derived.ShutString
import Derived.ChangeOld
import Derived.SizedLaws
import Derived.Shelf.Strings.IndexAny
import Derived.Laws.RangeAny
import Derived.Laws.Runes
import Derived.Below
import Derived.Shelf.RegionOpenPlain
import Derived.Shelf.Strings.IndexAnyAll
import Derived.Lib.QuoteLoop
import Derived.Lib.RuneCountTail
import Derived.WalkMore
import Derived.Shelf.Small.Utf8
import Derived.Test.YtljggmbgbnmapaaDoorProg
import Derived.Shelf.Lays
import Derived.Shelf.Unicode.ValidAny
import Derived.Lib.LaidU8T
import Derived.Shelf.Strings.Cut
import Derived.Shelf.Strings.Search3
import Derived.Shelf.Small.Strs
/- The input reads as it did. -/
namespace Go.Proofs.YtljggmbgbnmapaaDoorV
open Go

theorem args_stay {H : Type} {enc : TypeId × Value → H} {P : Program} (hl : laidOutB P = true) {W W' : World} (hb : RowKit.Below W.heap.size W W') : ∀ {ts : List TypeId} {vs : List Value} {ds : List (DataW H)} {ps : List MemPlace},
    (ts.all fun t => P.readableRec t && Nat.blt t P.types.size) = true → DataW.TrodAll enc P W 0 (fun _ => true) true ts vs ds ps → DataW.TrodAll enc P W' 0 (fun b => decide (b < W.heap.size)) true ts vs ds ps
  | [], [], [], ps, _, h => h
  | t :: ts, v :: vs, d :: ds, ps, ht, ⟨p, q, h1, h2, h3⟩ => by
    simp only [List.all_cons, Bool.and_eq_true] at ht
    obtain ⟨⟨k1, k2⟩, k3⟩ := ht
    refine ⟨p, q, RowKit.Below.trod hl k1 (by simpa [Nat.blt_eq] using k2) h1 hb ?_, args_stay hl hb k3 h2, h3⟩
    obtain ⟨m, hm⟩ := h1
    exact DataW.trod_lt m _ _ _ hm
  | [], _ :: _, _, _, _, h => h.elim
  | [], [], _ :: _, _, _, h => h.elim
  | _ :: _, [], _, _, _, h => h.elim
  | _ :: _, _ :: _, [], _, _, h => h.elim

end Go.Proofs.YtljggmbgbnmapaaDoorV

/- Loops over an index, for all great fuels. -/
namespace Go.Proofs.YtljggmbgbnmapaaDoorV
open Go

theorem wrap64 {n : Int} (h1 : -9223372036854775808 ≤ n) (h2 : n ≤ 9223372036854775807) : IntKind.i64.wrap n = n := by
  rw [IntKind.wrap_i64]
  omega

/-- Rounds i, i + 1, .., up to n, then what follows. -/
theorem Evt2.upto {F : Nat → List DC → Out} {st : Nat → List DC} {o : Out} : ∀ (m i : Nat), (∀ j, i ≤ j → j < i + m → Evt (fun k => F k (st j)) (.norm (st (j + 1)))) → Evt2 F (st (i + m)) o → Evt2 F (st i) o
  | 0, i, _, h2 => by simpa using h2
  | m + 1, i, h1, h2 => by
    refine Evt2.step (h1 i (Nat.le_refl _) (by omega)) (Evt2.upto m (i + 1) (fun j hj hj' => h1 j (by omega) (by omega)) ?_)
    rw [show i + 1 + m = i + (m + 1) by omega]
    exact h2

/-- The first round at which something fails, if any. -/
theorem first_not {p : Nat → Bool} : ∀ (n : Nat), (∀ j, j < n → p j = true) ∨ ∃ i, i < n ∧ p i = false ∧ ∀ j, j < i → p j = true
  | 0 => .inl fun j h => by omega
  | n + 1 => by
    rcases first_not (p := p) n with h | ⟨i, h1, h2, h3⟩
    · by_cases hp : p n = true
      · refine .inl fun j hj => ?_
        rcases Nat.lt_or_ge j n with h' | h'
        · exact h j h'
        · have : j = n := by omega
          rw [this]
          exact hp
      · exact .inr ⟨n, by omega, by simpa using hp, h⟩
    · exact .inr ⟨i, by omega, h2, h3⟩

end Go.Proofs.YtljggmbgbnmapaaDoorV

/- Loops over an index, without fuel; the helpers of the laws. -/
namespace Go.Proofs.YtljggmbgbnmapaaDoorV
open Go
set_option linter.unusedVariables false
set_option linter.unusedSimpArgs false

/-- An answer that leaves the loop. -/
def Out.esc (o : Out) : Prop := ∀ K, o.andThen K = o
theorem Out.esc_ret (v : List DC) : (Out.ret v).esc := fun _ => rfl
theorem Out.esc_ex (id : Nat) (v : List DC) : (Out.ex id v).esc := fun _ => rfl
theorem Out.esc_fail : Out.fail.esc := fun _ => rfl

theorem Loop_norm {F : List DC → Out} {v v' : List DC} (h : F v = .norm v') : Loop F v = Loop F v' := by rw [Loop_eq, h]; rfl
theorem Loop_ret {F : List DC → Out} {v r : List DC} (h : F v = .ret r) : Loop F v = .ret r := by rw [Loop_eq, h]; rfl
theorem Loop_ex {F : List DC → Out} {v r : List DC} {id : Nat} (h : F v = .ex id r) : Loop F v = .ex id r := by rw [Loop_eq, h]; rfl
theorem Loop_esc {F : List DC → Out} {v : List DC} {o : Out} (h : F v = o) (he : o.esc) : Loop F v = o := by rw [Loop_eq, h, he]

theorem Loop_upto {F : List DC → Out} {st : Nat → List DC} {o : Out} : ∀ (m i : Nat), (∀ j, i ≤ j → j < i + m → F (st j) = .norm (st (j + 1))) → Loop F (st (i + m)) = o → Loop F (st i) = o
  | 0, i, _, h2 => by simpa using h2
  | m + 1, i, h1, h2 => by
    rw [Loop_norm (h1 i (Nat.le_refl _) (by omega))]
    refine Loop_upto m (i + 1) (fun j hj hj' => h1 j (by omega) (by omega)) ?_
    rw [show i + 1 + m = i + (m + 1) by omega]
    exact h2

/-- What a loop over a list makes of a state: it goes on, or leaves. -/
def goE {α σ : Type} (f : Nat → σ → α → Sum σ Out) (fin : σ → Out) : Nat → σ → List α → Out
  | _, s, [] => fin s
  | i, s, x :: xs =>
    match f i s x with
    | .inl s' => goE f fin (i + 1) s' xs
    | .inr o => o

theorem Loop_fold {α σ : Type} {l : List α} {st : Nat → σ → List DC} {f : Nat → σ → α → Sum σ Out} {fin : σ → Out} {F : List DC → Out} (I : Nat → σ → Prop)
    (hF : ∀ (i : Nat) (s : σ) (hi : i < l.length), I i s → (∃ s', f i s l[i] = .inl s' ∧ I (i + 1) s' ∧ F (st i s) = .norm (st (i + 1) s')) ∨ ∃ o, f i s l[i] = .inr o ∧ o.esc ∧ F (st i s) = o)
    (hend : ∀ s, I l.length s → F (st l.length s) = fin s ∧ (fin s).esc) : ∀ (m i : Nat) (s : σ), i + m = l.length → I i s → Loop F (st i s) = goE f fin i s (l.drop i)
  | 0, i, s, hi, hI => by
    have : i = l.length := by omega
    subst this
    rw [List.drop_length, goE]
    exact Loop_esc (hend s hI).1 (hend s hI).2
  | m + 1, i, s, hi, hI => by
    have hlt : i < l.length := by omega
    rw [List.drop_eq_getElem_cons hlt, goE]
    rcases hF i s hlt hI with ⟨s', h1, h2, h3⟩ | ⟨o, h1, h2, h3⟩
    · rw [h1, Loop_norm h3]
      exact Loop_fold I hF hend m (i + 1) s' (by omega) h2
    · rw [h1]
      exact Loop_esc h3 h2

/-- The first element that is so, if any: the loop's answer. -/
def goF {α : Type} (p : α → Bool) (stop : Nat → α → Out) (fin : Out) : Nat → List α → Out
  | _, [] => fin
  | i, x :: xs => if p x = true then stop i x else goF p stop fin (i + 1) xs

theorem Loop_find {α : Type} {l : List α} {st : Nat → List DC} {p : α → Bool} {stop : Nat → α → Out} {fin : Out} {F : List DC → Out}
    (hF : ∀ (i : Nat) (hi : i < l.length), F (st i) = if p l[i] = true then stop i l[i] else .norm (st (i + 1)))
    (hs : ∀ i x, (stop i x).esc) (hend : F (st l.length) = fin) (hfin : fin.esc) : ∀ (m i : Nat), i + m = l.length → Loop F (st i) = goF p stop fin i (l.drop i)
  | 0, i, hi => by
    have : i = l.length := by omega
    subst this
    rw [List.drop_length, goF]
    exact Loop_esc hend hfin
  | m + 1, i, hi => by
    have hlt : i < l.length := by omega
    rw [List.drop_eq_getElem_cons hlt, goF]
    by_cases hp : p l[i] = true
    · rw [if_pos hp]
      exact Loop_esc (by rw [hF i hlt, if_pos hp]) (hs _ _)
    · rw [if_neg hp, Loop_norm (by rw [hF i hlt, if_neg hp])]
      exact Loop_find hF hs hend hfin m (i + 1) (by omega)

theorem Loop_find0 {α : Type} {l : List α} {st : Nat → List DC} {p : α → Bool} {stop : Nat → α → Out} {fin : Out} {F : List DC → Out}
    (hF : ∀ (i : Nat) (hi : i < l.length), F (st i) = if p l[i] = true then stop i l[i] else .norm (st (i + 1)))
    (hs : ∀ i x, (stop i x).esc) (hend : F (st l.length) = fin) (hfin : fin.esc) : Loop F (st 0) = goF p stop fin 0 l := by
  have := Loop_find hF hs hend hfin l.length 0 (by omega)
  rwa [List.drop_zero] at this

theorem goF_idx {α : Type} {p : α → Bool} {stop : Nat → α → Out} {fin : Out} : ∀ (l : List α) (i : Nat), goF p stop fin i l = match l.findIdx? p with | some j => (match l[j]? with | some x => stop (i + j) x | none => .fail) | none => fin
  | [], i => rfl
  | x :: l, i => by
    rw [goF, List.findIdx?_cons]
    by_cases hp : p x = true
    · simp [hp]
    · simp only [hp, Bool.false_eq_true, if_false]
      rw [goF_idx l (i + 1)]
      cases h : l.findIdx? p with
      | none => simp
      | some j => simp [Nat.add_assoc, Nat.add_comm 1 j]

theorem goF_any {α : Type} {p : α → Bool} {a : Out} {fin : Out} : ∀ (l : List α) (i : Nat), goF p (fun _ _ => a) fin i l = if l.any p = true then a else fin
  | [], i => rfl
  | x :: l, i => by
    rw [goF, goF_any l (i + 1), List.any_cons]
    cases p x <;> simp

theorem wrap_succ {i n : Nat} (h : i < n) (hn : n ≤ 9223372036854775807) : IntKind.i64.wrap ((i : Int) + 1) = ((i + 1 : Nat) : Int) := by
  rw [wrap64 (by omega) (by omega)]
  simp

theorem map_getD {α : Type} {f : α → List DC} {l : List α} {i : Nat} (h : i < l.length) : (l.map f).getD i [] = f l[i] := by
  rw [List.getD_eq_getElem?_getD, List.getElem?_map, List.getElem?_eq_getElem h]
  rfl

/-! ### The helpers -/

def szR (left : Int) (w : Nat) : Int := if left < (w : Int) then -1 else left - w
theorem szR_lt {left : Int} {w : Nat} (h : left < (w : Int)) : szR left w = -1 := if_pos h
theorem szR_ge {left : Int} {w : Nat} (h : ¬ left < (w : Int)) : szR left w = left - w := if_neg h

theorem szS_loop {α : Type} {enc : α → List DC} {vs : List α} {F : List DC → Out}
    (hF : ∀ (i : Nat) (hi : i < vs.length) (left : Int), 0 ≤ left → left ≤ 1048576 → F [.sl (vs.map enc), .i left, .i (i : Int)] = if left < (wtL (enc vs[i]) : Int) then .ret [.i (-1)] else .norm [.sl (vs.map enc), .i (left - wtL (enc vs[i])), .i ((i + 1 : Nat) : Int)])
    (hend : ∀ left, F [.sl (vs.map enc), .i left, .i (vs.length : Int)] = .ex 0 [.i left]) :
    ∀ (m i : Nat) (left : Int), i + m = vs.length → 0 ≤ left → left ≤ 1048576 → Loop F [.sl (vs.map enc), .i left, .i (i : Int)] = if left < (wtV ((vs.drop i).map enc) : Int) then .ret [.i (-1)] else .ex 0 [.i (left - wtV ((vs.drop i).map enc))]
  | 0, i, left, hi, h0, h1 => by
    have : i = vs.length := by omega
    subst this
    rw [List.drop_length, Loop_ex (hend left)]
    simp only [List.map_nil, wtV]
    rw [if_neg (by omega)]
    simp
  | m + 1, i, left, hi, h0, h1 => by
    have hlt : i < vs.length := by omega
    have hw : wtV ((vs.drop i).map enc) = wtL (enc vs[i]) + wtV ((vs.drop (i + 1)).map enc) := by
      rw [List.drop_eq_getElem_cons hlt, List.map_cons, wtV]
    by_cases hc : left < (wtL (enc vs[i]) : Int)
    · rw [Loop_ret (by rw [hF i hlt left h0 h1, if_pos hc]), if_pos (by omega)]
    · rw [Loop_norm (by rw [hF i hlt left h0 h1, if_neg hc]), szS_loop hF hend m (i + 1) _ (by omega) (by omega) (by omega), hw]
      by_cases h2 : left - (wtL (enc vs[i]) : Int) < (wtV ((vs.drop (i + 1)).map enc) : Int)
      · rw [if_pos h2, if_pos (by omega)]
      · rw [if_neg h2, if_neg (by omega)]
        congr 3
        omega

/-- The whole of a 'how great' of a slice. -/
theorem szS_all {α : Type} {enc : α → List DC} {vs : List α} {F : List DC → Out} (hl : vs.length ≤ 9223372036854775807)
    (hF : ∀ (i : Nat) (hi : i < vs.length) (left : Int), 0 ≤ left → left ≤ 1048576 → F [.sl (vs.map enc), .i left, .i (i : Int)] = if left < (wtL (enc vs[i]) : Int) then .ret [.i (-1)] else .norm [.sl (vs.map enc), .i (left - wtL (enc vs[i])), .i ((i + 1 : Nat) : Int)])
    (hend : ∀ left, F [.sl (vs.map enc), .i left, .i (vs.length : Int)] = .ex 0 [.i left]) {left : Int} (h0 : 0 ≤ left) (h1 : left ≤ 1048576) :
    (if (decide ((IntKind.i64.wrap (left - (((vs.map enc).length : Nat) : Int))) < (0 : Int))) = true then Out.ret [DC.i (-1 : Int)]
    else Out.andThenB (Loop F [DC.sl (vs.map enc), DC.i (IntKind.i64.wrap (left - (((vs.map enc).length : Nat) : Int))), DC.i (0 : Int)]) 0 fun v4 => .ret [DC.i ((v4.getD 0 d0).ii)]) = .ret [.i (szR left (DC.wt (.sl (vs.map enc))))] := by
  rw [DC.wt, List.length_map, wrap64 (by omega) (by omega)]
  by_cases hc : left - (vs.length : Int) < 0
  · simp only [hc, decide_true, if_true]
    rw [szR_lt (by omega)]
  · simp only [hc, decide_false, Bool.false_eq_true, if_false]
    have := szS_loop hF hend vs.length 0 (left - vs.length) (by omega) (by omega) (by omega)
    rw [List.drop_zero] at this
    rw [show (0 : Int) = ((0 : Nat) : Int) from rfl, this]
    by_cases h2 : left - (vs.length : Int) < (wtV (vs.map enc) : Int)
    · rw [if_pos h2, szR_lt (by omega)]
      rfl
    · rw [if_neg h2, szR_ge (by omega)]
      simp only [Out.andThenB_ex, if_true, List.getD_cons_zero, DC.ii_i]
      congr 3
      omega

theorem toS_loop {α : Type} {enc : α → List DC} {vs : List α} {z : List DC} {F : List DC → Out} (hl : vs.length ≤ 1048576)
    (hF : ∀ (i : Nat) (hi : i < vs.length) (cur : List (List DC)), cur.length = vs.length → cur.getD i [] = z → F [.sl (vs.map enc), .sl cur, .i (i : Int)] = .norm [.sl (vs.map enc), .sl (cur.set i (enc vs[i])), .i ((i + 1 : Nat) : Int)])
    (hend : ∀ cur, F [.sl (vs.map enc), .sl cur, .i (vs.length : Int)] = .ex 0 [.sl cur]) :
    Loop F [.sl (vs.map enc), .sl (List.replicate vs.length z), .i ((0 : Nat) : Int)] = .ex 0 [.sl (vs.map enc)] := by
  have hloop : Loop F [.sl (vs.map enc), .sl (List.replicate vs.length z), .i ((0 : Nat) : Int)] = .ex 0 [.sl (vs.map enc)] := by
    have h := Loop_upto (F := F) (st := fun i => [.sl (vs.map enc), .sl ((vs.map enc).take i ++ List.replicate (vs.length - i) z), .i (i : Int)]) (o := .ex 0 [.sl (vs.map enc)]) vs.length 0 (fun i _ hi => by
      have hlt : i < vs.length := by omega
      have hlen : ((vs.map enc).take i ++ List.replicate (vs.length - i) z).length = vs.length := by simp; omega
      have hgz : ((vs.map enc).take i ++ List.replicate (vs.length - i) z).getD i [] = z := by
        rw [List.getD_eq_getElem?_getD, List.getElem?_append_right (by simp; omega), List.getElem?_replicate, if_pos (by simp; omega)]
        rfl
      have := hF i hlt _ hlen hgz
      have hset : ((vs.map enc).take i ++ List.replicate (vs.length - i) z).set i (enc vs[i]) = (vs.map enc).take (i + 1) ++ List.replicate (vs.length - (i + 1)) z := by
        have ht : (vs.map enc).take (i + 1) = (vs.map enc).take i ++ [enc vs[i]] := by rw [List.take_add_one, List.getElem?_map, List.getElem?_eq_getElem hlt]; rfl
        rw [List.set_append_right _ _ (by simp; omega), ht]
        obtain ⟨m, hm⟩ : ∃ m, vs.length - i = m + 1 := ⟨vs.length - i - 1, by omega⟩
        have hm2 : vs.length - (i + 1) = m := by omega
        have hm3 : i - ((vs.map enc).take i).length = 0 := by simp; omega
        rw [hm, hm2, hm3, List.replicate_succ]
        simp only [List.set_cons_zero, List.append_assoc, List.singleton_append]
      rw [hset] at this
      exact this) (by
        have := hend (vs.map enc)
        refine Loop_ex ?_
        have ht : (vs.map enc).take (0 + vs.length) = vs.map enc := List.take_of_length_le (by simp)
        rw [ht]
        simpa using this)
    simpa using h
  exact hloop

theorem lim_of {n : Nat} (h : n ≤ 1048576) : (n : Int) < (LIM : Int) := by simp only [LIM]; omega

theorem eqS_all {l : List (List DC)} {F : List DC → Out} (hF : ∀ (i : Nat), i < l.length → F [.sl l, .sl l, .i (i : Int)] = .norm [.sl l, .sl l, .i ((i + 1 : Nat) : Int)]) (hend : F [.sl l, .sl l, .i (l.length : Int)] = .ex 0 []) :
    (if ((l.length : Int) != (l.length : Int)) = true then Out.ret [DC.b false]
    else Out.andThenB (Loop F [DC.sl l, DC.sl l, DC.i (0 : Int)]) 0 fun v4 => .ret [DC.b true]) = .ret [.b true] := by
  have hloop : Loop F [.sl l, .sl l, .i ((0 : Nat) : Int)] = .ex 0 [] :=
    Loop_upto (st := fun i => [.sl l, .sl l, .i (i : Int)]) l.length 0 (fun j _ hj => hF j (by omega)) (by rw [Nat.zero_add]; exact Loop_ex hend)
  rw [show (0 : Int) = ((0 : Nat) : Int) from rfl, hloop]
  simp

theorem setRunD_all {z xs : List DC} (h : z.length = xs.length) : setRunD z 0 xs = xs := by
  simp [setRunD, ← h]

end Go.Proofs.YtljggmbgbnmapaaDoorV

/- Functions that are met by a contract: their arguments and results are bools, numbers and strings. -/
namespace Go.Proofs.YtljggmbgbnmapaaDoorV
open Go
set_option linter.unusedVariables false
set_option linter.unusedSimpArgs false

def k1Is : CT → KC → Bool
  | .b, .one .b => true
  | .i k, .one (.i k') => decide (k = k')
  | .s, .one .s => true
  | _, _ => false
def tmIs : List CT → List KC → Bool
  | [], [] => true
  | c :: cs, k :: ks => k1Is c k && tmIs cs ks
  | _, _ => false
def hintLit (cts : List CT) (h : Hint) : Bool := tmIs cts h.tm && (match h.ob with | [] => true | _ => false)

theorem tmIs_eq : ∀ {cts : List CT} {ks : List KC}, tmIs cts ks = true → ks = cts.map fun c => .one c.k1
  | [], [], _ => rfl
  | c :: cs, k :: ks, h => by
    simp only [tmIs, Bool.and_eq_true] at h
    rw [List.map_cons, ← tmIs_eq h.2]
    congr 1
    have h1 := h.1
    unfold k1Is at h1
    split at h1
    · rfl
    · simp only [decide_eq_true_eq] at h1; rw [h1]; rfl
    · rfl
    · simp at h1
  | [], _ :: _, h => by simp [tmIs] at h
  | _ :: _, [], h => by simp [tmIs] at h
theorem tmIs_flat : ∀ {cts : List CT} {ks : List KC}, tmIs cts ks = true → cts.all CT.flat = true
  | [], _, _ => rfl
  | c :: cs, k :: ks, h => by
    simp only [tmIs, Bool.and_eq_true] at h
    rw [List.all_cons, tmIs_flat h.2, Bool.and_true]
    have h1 := h.1
    cases c <;> simp_all [k1Is, CT.flat]
  | _ :: _, [], h => by simp [tmIs] at h

def litC : CT → DC → Value
  | .b, d => .bool d.bb
  | .i k, d => .int k d.ii
  | .s, d => .string ⟨d.ss.toArray⟩
  | .sl _, _ => undef
def lits : List CT → List DC → Nat → List Value
  | [], _, _ => []
  | c :: cs, v, n => litC c (v.getD n d0) :: lits cs v (n + 1)
theorem lits_len : ∀ (cts : List CT) (v : List DC) (n : Nat), (lits cts v n).length = cts.length
  | [], _, _ => rfl
  | c :: cs, v, n => by rw [lits, List.length_cons, lits_len cs v (n + 1), List.length_cons]

theorem mkT_lit (v : List DC) : ∀ (cts : List CT) (n i : Nat) (c : CT), cts.all CT.flat = true → cts[i]? = some c → (mkT v n (cts.map fun c => KC.one c.k1))[i]? = some (.one (c.k1.mk v (n + i)))
  | [], n, i, c, _, h => by simp at h
  | a :: cts, n, 0, c, hf, h => by
    simp only [List.getElem?_cons_zero, Option.some.injEq] at h
    subst h
    rfl
  | a :: cts, n, i + 1, c, hf, h => by
    simp only [List.all_cons, Bool.and_eq_true] at hf
    simp only [List.getElem?_cons_succ] at h
    have hc : a.k1.cnt = 1 := by cases a <;> rfl
    rw [List.map_cons, mkT, List.getElem?_cons_succ, hc, mkT_lit v cts (n + 1) i c hf.2 h]
    congr 3
    omega
theorem mkT_len (v : List DC) : ∀ (ks : List KC) (n : Nat), (mkT v n ks).length = ks.length
  | [], _ => rfl
  | .one k :: ks, n => by rw [mkT, List.length_cons, mkT_len v ks, List.length_cons]
  | .agg l :: ks, n => by rw [mkT, List.length_cons, mkT_len v ks, List.length_cons]

theorem lits_get (v : List DC) : ∀ (cts : List CT) (n i : Nat) (c : CT), cts[i]? = some c → (lits cts v n)[i]? = some (litC c (v.getD (n + i) d0))
  | [], n, i, c, h => by simp at h
  | a :: cts, n, 0, c, h => by
    simp only [List.getElem?_cons_zero, Option.some.injEq] at h
    subst h
    rfl
  | a :: cts, n, i + 1, c, h => by
    simp only [List.getElem?_cons_succ] at h
    rw [lits, List.getElem?_cons_succ, lits_get v cts (n + 1) i c h]
    congr 3
    omega

section
variable {P : Program} {ty : Nat → Option TI}

theorem lit_args {A : An} {g : Gh} {fi : FI} {cts : List CT} {v : List DC} {vals : Array Value} {w : World} (hf : cts.all CT.flat = true)
    (hr : Rel ty A g (startSt fi ⟨cts.map fun c => .one c.k1, []⟩ v) { tmps := vals ++ Array.replicate (fi.ntmps - vals.size) undef, defers := [] } w) (hs : vals.size = cts.length) : vals = (lits cts v 0).toArray := by
  apply Array.toList_inj.1
  apply List.ext_getElem?
  intro i
  by_cases hi : i < cts.length
  · have hc : cts[i]? = some cts[i] := List.getElem?_eq_getElem hi
    have h1 := mkT_lit v cts 0 i _ hf hc
    have h2 : (startSt fi ⟨cts.map fun c => .one c.k1, []⟩ v).tm[i]? = some (.one (cts[i].k1.mk v (0 + i))) := by
      unfold startSt mkSt
      dsimp only
      rw [List.getElem?_append_left (by rw [mkT_len]; simpa using hi)]
      exact h1
    have hv : vals.toList[i]? = some (vals[i]'(by omega)) := by
      rw [Array.getElem?_toList, Array.getElem?_eq_getElem (by omega)]
    have h3 := hr.tm i _ (vals[i]'(by omega)) h2 (by
      dsimp only
      rw [Array.getElem?_append_left (by omega), Array.getElem?_eq_getElem (by omega)])
    have hfl : CT.flat cts[i] = true := List.all_eq_true.1 hf _ (List.getElem_mem hi)
    have hl := lits_get v cts 0 i _ hc
    simp only [List.toList_toArray] at hl ⊢
    rw [hv, hl]
    congr 1
    generalize cts[i] = c at h3 hfl ⊢
    cases c with
    | sl e => simp [CT.flat] at hfl
    | b => exact h3
    | i k => exact h3
    | s => exact h3
  · rw [List.getElem?_eq_none (by simp; omega), List.getElem?_eq_none (by simp [lits_len]; omega)]

theorem rkAll_ct (rcts : List CT) (i : Nat) : rkAll i (rcts.map fun c => (false, [RK.ct c])) = rcts.map CT.k1 := by
  unfold rkAll
  induction rcts with
  | nil => rfl
  | cons c cs ih =>
    rw [List.map_cons, List.flatMap_cons, List.map_cons]
    show rkK i (RK.ct c :: (cs.map fun c => (false, [RK.ct c])).flatMap Prod.snd) = _
    rw [rkK]
    show c.k1 :: rkK i _ = _
    rw [ih]

/-- Is the datum of the cell's kind? -/
def okD : CT → DC → Bool
  | .b, .b _ => true
  | .i _, .i _ => true
  | .s, .s _ => true
  | _, _ => false
def okDs : List CT → List DC → Nat → Bool
  | [], _, _ => true
  | c :: cs, r, n => okD c (r.getD n d0) && okDs cs r (n + 1)

/-- What a call of that kind returns. -/
theorem lit_res {A : An} {rcts : List CT} {r : List DC} {w' : World} (hf : okDs rcts r 0 = true) (hA : A.m = 0) (hk : Keep A w') : Res ty A [] (rcts.map fun c => (false, [RK.ct c])) r (lits rcts r 0) w' := by
  refine ⟨⟨⟨fun _ => False, fun _ => 0, fun _ => undef⟩, [], [], lits rcts r 0, [], ?_, rfl, ?_, ?_, fun b h => h.elim, fun j hj => by omega, fun j hj => by omega⟩, hk⟩
  · have : ∀ (cs : List CT) (n : Nat), RVs (cs.map fun c => (false, [RK.ct c])) (lits cs r n) (lits cs r n) := by
      intro cs
      induction cs with
      | nil => intro n; rfl
      | cons c cs ih => intro n; exact ⟨[litC c (r.getD n d0)], lits cs r (n + 1), rfl, rfl, fun h => absurd h (by simp), fun _ => rfl, ih (n + 1)⟩
    exact this rcts 0
  · rw [rkAll_ct, List.flatMap_nil, List.append_nil, List.append_nil]
    have : ∀ (cs : List CT) (n : Nat), okDs cs r n = true → FL ty A ⟨fun _ => False, fun _ => 0, fun _ => undef⟩ [] [] w' r n (cs.map CT.k1) (lits cs r n) := by
      intro cs
      induction cs with
      | nil => intro n _; trivial
      | cons c cs ih =>
        intro n hc
        simp only [okDs, Bool.and_eq_true] at hc
        have hcnt : c.k1.cnt = 1 := by cases c <;> rfl
        rw [List.map_cons, lits]
        refine ⟨⟨[r.getD n d0], by rw [hcnt]; rfl, fun i hi => ?_, ?_⟩, ?_⟩
        · rw [hcnt] at hi
          have : i = 0 := by omega
          subst this
          rfl
        · have h1 := hc.1
          cases c with
          | b => cases hd : r.getD n d0 <;> rw [hd] at h1 <;> simp [okD] at h1; exact ⟨_, rfl, rfl⟩
          | i k => cases hd : r.getD n d0 <;> rw [hd] at h1 <;> simp [okD] at h1; exact ⟨_, rfl, rfl⟩
          | s => cases hd : r.getD n d0 <;> rw [hd] at h1 <;> simp [okD] at h1; exact ⟨_, rfl, rfl⟩
          | sl e => simp [okD] at h1
        · rw [hcnt]
          exact ih (n + 1) hc.2
    exact this rcts 0 hf
  · rw [rkAll_ct, List.flatMap_nil, List.append_nil, List.append_nil]
    have : ∀ (cs : List CT) (us : List Value), Apart (cs.map CT.k1) us := by
      intro cs
      induction cs with
      | nil => intro us; cases us <;> trivial
      | cons c cs ih =>
        intro us
        cases us with
        | nil => cases c <;> trivial
        | cons u us => cases c <;> exact ih us
    exact this rcts _

def primH (cts rcts : List CT) (q : List DC → Option (List DC)) : Hint → List DC → Option (List DC) := fun h v => if hintLit cts h = true then (match q v with | some r => if okDs rcts r 0 = true then some r else none | none => none) else none

/-- A function that is met by a contract. -/
theorem prim_lit {G : Glob} {f : Nat} {fi : FI} {fd : Func} {cts rcts : List CT} {q : List DC → Option (List DC)} (h1 : P.funcs[f]? = some fd) (h2 : (fd.name == "runtime.NumGoroutine") = false) (h3 : fd.body.isNone = false)
    (hrk : fi.rk = rcts.map fun c => (false, [RK.ct c])) (hp : fi.prim = some fun h v => if hintLit cts h = true then (match q v with | some r => if okDs rcts r 0 = true then some r else none | none => none) else none)
    (hq : ∀ v r w, q v = some r → G.ok w → Calls P f (lits cts v 0).toArray w fun e w' => e = .returned (resVal (lits rcts r 0)) ∧ RowKit.Below w.heap.size w w') : FnOk P G ty f fi := by
  refine ⟨⟨fd, h1, h2, h3, fun h => by rw [hp] at h; simp at h⟩, fun p hpp h v r e => ?_⟩
  rw [hp] at hpp
  simp only [Option.some.injEq] at hpp
  subst hpp
  dsimp only at e
  split at e
  · rename_i hh
    cases hqv : q v with
    | none => rw [hqv] at e; simp at e
    | some r' =>
      rw [hqv] at e
      dsimp only at e
      split at e
      · rename_i hok
        simp only [Option.some.injEq] at e
        subst e
        unfold hintLit at hh
        rw [Bool.and_eq_true] at hh
        obtain ⟨k1, k2⟩ := hh
        have hob : h.ob = [] := by
          cases ho : h.ob with
          | nil => rfl
          | cons a l => rw [ho] at k2; simp at k2
        have htm := tmIs_eq k1
        have hflat := tmIs_flat k1
        obtain ⟨tm, ob⟩ := h
        dsimp only at hob htm k1
        subst hob htm
        intro A g vals w hA hr hs hw hm
        have hvals := lit_args hflat hr (by simpa using hs)
        subst hw
        have hc := hq v r' A.w0 hqv hA.1
        rw [← hvals] at hc
        refine Calls.mono hc fun en w' hen => ?_
        obtain ⟨rfl, bel⟩ := hen
        refine ⟨_, rfl, ?_⟩
        rw [hrk]
        refine lit_res hok (by rw [hm]; rfl) ⟨bel.os, bel.tape, bel.output, bel.size, fun b hb _ _ => bel.block b hb⟩
      · simp at e
  · simp at e

end
end Go.Proofs.YtljggmbgbnmapaaDoorV

namespace Go.Proofs
open Go.Shelf Go.RowKit Go.Lib
variable {P : Program} {ρ : Ren}

def eE : ByteArray := ⟨#[101, 69]⟩

theorem below_iter (w : World) (s : ByteArray) (p : Nat) : Below w.heap.size w (w.iter s p) := by
  have hs : (w.iter s p).heap = w.heap.push (.stringIter s p) := rfl
  exact ⟨rfl, rfl, rfl, by rw [hs]; simp, fun b hb => by rw [hs, Array.getElem?_push, if_neg (by omega)]⟩

set_option maxHeartbeats 2000000 in
set_option maxRecDepth 1000000 in
theorem IndexRune_ee_err (L : Lays.n152 P ρ) (w : World) :
    Calls P (ρ.f 152) #[.string eE, .int .i32 65533] w fun e w' => e = .returned (.int .i64 (-1)) ∧ Below w.heap.size w w' := by
  have t3 := L.t3; have a3 := L.a3; have z3 := L.z3; have v3 := L.v3
  have t4 := L.t4; have a4 := L.a4; have z4 := L.z4; have v4 := L.v4
  have t5 := L.t5; have a5 := L.a5; have z5 := L.z5; have v5 := L.v5
  have t9 := L.t9; have a9 := L.a9; have z9 := L.z9; have v9 := L.v9
  have t21 := L.t21; have a21 := L.a21; have z21 := L.z21; have v21 := L.v21
  have n0 := fun ty => run_next_ascii (P := P) w eE 0 ty (by decide) (by decide)
  have n1 := fun ty => run_next_ascii (P := P) w eE 1 ty (by decide) (by decide)
  have n2 := fun ty => run_next_end (P := P) w eE 2 ty (by decide)
  go_enter L.f152, Body.n152_ntmps ρ
  go_wp2
  go_loopg [5, 6] 2 (fun g _ _ wx => ∃ i : Nat, i + g = 2 ∧ wx = w.iter eE i)
  case atStart => exact ⟨0, rfl, rfl⟩
  case round =>
    obtain ⟨i, hig, rfl⟩ := hrel
    cases gk with
    | zero =>
      obtain rfl : i = 2 := by omega
      go_wp2
      go_ret
      exact ⟨rfl, below_iter _ _ _⟩
    | succ g =>
      rcases Nat.lt_or_ge 0 i with h | h
      · obtain rfl : i = 1 := by omega
        have e1 : ((eE[1]'(by decide)).toNat : Int) = 69 := by decide
        simp only [e1] at n1
        go_wp2
        go_roundg g
        case measure => omega
        case rel => exact ⟨2, by omega, rfl⟩
      · obtain rfl : i = 0 := by omega
        have e0 : ((eE[0]'(by decide)).toNat : Int) = 101 := by decide
        simp only [e0] at n0
        go_wp2
        go_roundg g
        case measure => omega
        case rel => exact ⟨1, by omega, rfl⟩

set_option maxHeartbeats 2000000 in
set_option maxRecDepth 1000000 in
theorem IndexRune_ee_bad (L : Lays.n152 P ρ) (r : Int) (w : World) (h0 : 128 ≤ r) (h1 : ¬ r = 65533) (h2 : Lib.validRune r = false) :
    Calls P (ρ.f 152) #[.string eE, .int .i32 r] w fun e w' => e = .returned (.int .i64 (-1)) ∧ Below w.heap.size w w' := by
  have t3 := L.t3; have a3 := L.a3; have z3 := L.z3; have v3 := L.v3
  have t4 := L.t4; have a4 := L.a4; have z4 := L.z4; have v4 := L.v4
  have t5 := L.t5; have a5 := L.a5; have z5 := L.z5; have v5 := L.v5
  have t9 := L.t9; have a9 := L.a9; have z9 := L.z9; have v9 := L.v9
  have t21 := L.t21; have a21 := L.a21; have z21 := L.z21; have v21 := L.v21
  have hlt : decide (r < 128) = false := decide_eq_false (by omega)
  have hge : decide (0 ≤ r) = true := decide_eq_true (by omega)
  have hne : (r == 65533) = false := beq_eq_false_iff_ne.2 h1
  have e119 : ∀ args w, (callFunc (ρ.f 119) args).run P w = .ok (.enter (ρ.f 119) args) w := enters_of L.f119 (by kernel_rfl) rfl
  go_enter L.f152, Body.n152_ntmps ρ
  go_wp2_with (go_at_fn (ρ.f 119); refine (Any.utf8_ValidRune { L with } _ _).mono ?_; rintro e w' ⟨rfl, hw⟩; rw [hw, h2])
  go_ret
  exact ⟨rfl, Below.refl _ _⟩

set_option maxHeartbeats 2000000 in
set_option maxRecDepth 1000000 in
theorem IndexRune_ee_big (L : Lays.n152 P ρ) (r : Int) (w : World) (h0 : 128 ≤ r) (h1 : ¬ r = 65533) (h2 : Lib.validRune r = true) (h3 : 3 ≤ (Utf8.encode r).size) (h4 : (Utf8.encode r).size ≤ 4) :
    Calls P (ρ.f 152) #[.string eE, .int .i32 r] w fun e w' => e = .returned (.int .i64 (-1)) ∧ Below w.heap.size w w' := by
  have t3 := L.t3; have a3 := L.a3; have z3 := L.z3; have v3 := L.v3
  have t4 := L.t4; have a4 := L.a4; have z4 := L.z4; have v4 := L.v4
  have t5 := L.t5; have a5 := L.a5; have z5 := L.z5; have v5 := L.v5
  have t9 := L.t9; have a9 := L.a9; have z9 := L.z9; have v9 := L.v9
  have t21 := L.t21; have a21 := L.a21; have z21 := L.z21; have v21 := L.v21
  have hlt : decide (r < 128) = false := decide_eq_false (by omega)
  have hge : decide (0 ≤ r) = true := decide_eq_true (by omega)
  have hne : (r == 65533) = false := beq_eq_false_iff_ne.2 h1
  have e119 : ∀ args w, (callFunc (ρ.f 119) args).run P w = .ok (.enter (ρ.f 119) args) w := enters_of L.f119 (by kernel_rfl) rfl
  have e137 : ∀ args w, (callFunc (ρ.f 137) args).run P w = .ok (.enter (ρ.f 137) args) w := enters_of L.f137 (by kernel_rfl) rfl
  go_enter L.f152, Body.n152_ntmps ρ
  go_wp2_with (go_at_fn (ρ.f 119); refine (Any.utf8_ValidRune { L with } _ _).mono ?_; rintro e w' ⟨rfl, hw⟩; rw [hw, h2])
  have u21s : (P.underlying (ρ.t 21)).isSome = true := by rw [t21]; rfl
  have hw3 : (Utf8.encode r).size = 3 ∨ (Utf8.encode r).size = 4 := by omega
  go_step3
  go_wp2
  have hc : decide (((Utf8.encode r).size : Int) - 1 < (eE.size : Int)) = false := decide_eq_false (by have : (eE.size : Int) = 2 := rfl; omega)
  go_loopg [9] 1 (fun g x wx => g = 1 ∧ x = Value.int .i64 (((Utf8.encode r).size : Int) - 1) ∧ wx = w)
  case atStart => exact ⟨rfl, rfl, rfl⟩
  case round =>
    obtain ⟨_, rfl, rfl⟩ := hrel
    go_wp2
    rw [Exit.noGoto_ret]
    go_ret
    exact ⟨rfl, Below.refl _ _⟩
set_option maxHeartbeats 2000000 in
set_option maxRecDepth 1000000 in
theorem IndexRune_ee_two (L : Lays.n152 P ρ) (r : Int) (w : World) (h0 : 128 ≤ r) (h1 : ¬ r = 65533) (h2 : Lib.validRune r = true) (h3 : (Utf8.encode r).size = 2) :
    Calls P (ρ.f 152) #[.string eE, .int .i32 r] w fun e w' => e = .returned (.int .i64 (-1)) ∧ Below w.heap.size w w' := by
  have mixed := L.mixed
  have t3 := L.t3; have a3 := L.a3; have z3 := L.z3; have v3 := L.v3
  have t4 := L.t4; have a4 := L.a4; have z4 := L.z4; have v4 := L.v4
  have t5 := L.t5; have a5 := L.a5; have z5 := L.z5; have v5 := L.v5
  have t9 := L.t9; have a9 := L.a9; have z9 := L.z9; have v9 := L.v9
  have t21 := L.t21; have a21 := L.a21; have z21 := L.z21; have v21 := L.v21
  have h2' := h2
  have hlt : decide (r < 128) = false := decide_eq_false (by omega)
  have hge : decide (0 ≤ r) = true := decide_eq_true (by omega)
  have hne : (r == 65533) = false := beq_eq_false_iff_ne.2 h1
  have e119 : ∀ args w, (callFunc (ρ.f 119) args).run P w = .ok (.enter (ρ.f 119) args) w := enters_of L.f119 (by kernel_rfl) rfl
  have e137 : ∀ args w, (callFunc (ρ.f 137) args).run P w = .ok (.enter (ρ.f 137) args) w := enters_of L.f137 (by kernel_rfl) rfl
  go_enter L.f152, Body.n152_ntmps ρ
  go_wp2_with (go_at_fn (ρ.f 119); refine (Any.utf8_ValidRune { L with } _ _).mono ?_; rintro e w' ⟨rfl, hw⟩; rw [hw, h2])
  have u21s : (P.underlying (ρ.t 21)).isSome = true := by rw [t21]; rfl
  go_step3
  go_wp2
  have iE : ∀ w : World, (Instr.index (ρ.t 9) (.string eE) (.int .i64 1)).run P w = .ok (.int .u8 69) w := fun w => by
    rw [run_index_string w (ρ.t 9) eE .i64 1 t9, dif_pos (by decide)]; rfl
  obtain ⟨B, hB, iR⟩ : ∃ B : UInt8, 128 ≤ B.toNat ∧ ∀ w : World, (Instr.index (ρ.t 9) (.string (Utf8.encode r)) (.int .i64 1)).run P w = .ok (.int .u8 (B.toNat : Int)) w := by
    have hf := (encode_facts r (by rw [validRune_eq]; exact h2') h0).2.2 (by omega)
    refine ⟨(Utf8.encode r)[1]'(by omega), ?_, fun w => ?_⟩
    · have e : (Utf8.encode r)[(Utf8.encode r).size - 1]'(by omega) = (Utf8.encode r)[1]'(by omega) := by congr 1; omega
      rw [← e]; exact hf
    · rw [run_index_string w (ρ.t 9) _ .i64 1 t9, dif_pos (by omega)]; rfl
  have hne1 : ((69 : Int) == (B.toNat : Int)) = false := beq_eq_false_iff_ne.2 (by omega)
  have hback : ((B.toNat : Int)).toNat.toUInt8 = B := by simp
  have hib : Lib.indexByte (eE.extract 2 eE.size).data.toList B = -1 := by
    have : (eE.extract 2 eE.size).data.toList = [] := by decide
    rw [this]; rfl
  have hc : decide ((1 : Int) < (eE.size : Int)) = true := by decide
  have hw2 : IntKind.i64.wrap 2 = 2 := by decide
  have hle2 : (0 : Int) ≤ 2 ∧ (2 : Int) ≤ (eE.size : Int) := by decide

  go_loopg [9] 1 (fun g x wx => g = 1 ∧ x = Value.int .i64 1 ∧ wx = w)
  case atStart => exact ⟨rfl, rfl, rfl⟩
  case round =>
    obtain ⟨_, rfl, rfl⟩ := hrel
    go_wp2
    go_step3
    go_wp2
    go_region_o
    go_wp2
    go_region_with_o (go_at_fn (ρ.f 137); refine (Any.strings_IndexByte { L with } _ _ _).mono ?_; rintro e w' ⟨rfl, hw⟩; rw [hw, hback])
    go_wp2
    rw [Exit.noGoto_ret]
    go_wp2
    rw [Exit.noGoto_ret]
    go_ret
    exact ⟨rfl, ((Below.refl _ _).drew).drew⟩

def irE (r : Int) : Int := if r < 128 then Lib.indexByte eE.data.toList r.toNat.toUInt8 else -1

theorem IndexRune_ee (L : Lays.n152 P ρ) (r : Int) (w : World) (h0 : 0 ≤ r) (h2 : Lib.validRune r = true) :
    Calls P (ρ.f 152) #[.string eE, .int .i32 r] w fun e w' => e = .returned (.int .i64 (irE r)) ∧ Below w.heap.size w w' := by
  by_cases h : r < 128
  · refine (Any.strings_IndexRune_ascii L eE r w h0 h).mono ?_
    rintro e w' ⟨rfl, hw⟩
    rw [hw]
    exact ⟨by rw [irE, if_pos h], Below.refl _ _⟩
  · have e : irE r = -1 := by rw [irE, if_neg h]
    rw [e]
    by_cases h1 : r = 65533
    · subst h1; exact IndexRune_ee_err L w
    · have hf := encode_facts r (by rw [validRune_eq]; exact h2) (by omega)
      by_cases h3 : (Utf8.encode r).size = 2
      · exact IndexRune_ee_two L r w (by omega) h1 h2 h3
      · exact IndexRune_ee_big L r w (by omega) h1 h2 (by omega) (by omega)

theorem run_next_gen (w : World) (b : Nat) (s : ByteArray) (pos : Nat) (ty : TypeId) (hb : w.heap[b]? = some (.stringIter s pos)) (h : pos < s.size) :
    (Instr.next (.pointer (some ⟨b, 0, none⟩)) true ty).run P w =
      .ok (.tuple #[.bool true, .int .i64 pos, .int .i32 (Utf8.decode s pos).1]) { w with heap := w.heap.setIfInBounds b (.stringIter s (pos + (Utf8.decode s pos).2)) } := by
  simp only [Instr.next, getObj, setObj, Sem.run_bind, Sem.run, hb, Result.andThen, h, if_true]
  simp [goInt]
theorem run_next_gend (w : World) (b : Nat) (s : ByteArray) (pos : Nat) (ty : TypeId) (hb : w.heap[b]? = some (.stringIter s pos)) (h : ¬ pos < s.size) :
    (Instr.next (.pointer (some ⟨b, 0, none⟩)) true ty).run P w = .ok (.tuple #[.bool false]) w := by
  simp [Instr.next, getObj, Sem.run, hb, h]

theorem decodeN_wide (n b0 b1 b2 b3 : Nat) (hn : 0 < n) : 1 ≤ (Lib.decodeN n b0 b1 b2 b3).2 ∧ (Lib.decodeN n b0 b1 b2 b3).2 ≤ n ∧ (Lib.decodeN n b0 b1 b2 b3).2 ≤ 4 ∧ (1 < (Lib.decodeN n b0 b1 b2 b3).2 → 128 ≤ b1) ∧ (2 < (Lib.decodeN n b0 b1 b2 b3).2 → 128 ≤ b2) ∧ (3 < (Lib.decodeN n b0 b1 b2 b3).2 → 128 ≤ b3) ∧ (b0 < 128 → (Lib.decodeN n b0 b1 b2 b3).1 = b0) ∧ (128 ≤ b0 → 128 ≤ (Lib.decodeN n b0 b1 b2 b3).1) := by
  unfold Lib.decodeN
  repeat' split
  all_goals (refine ⟨?_, ?_, ?_, ?_, ?_, ?_, ?_, ?_⟩ <;> intros <;> (first | rfl | (simp only at *; omega)))

theorem get!_at (s : ByteArray) (i : Nat) (h : i < s.size) : s.data.toList[i]? = some (s.get! i) := by
  rw [Lib.data_getElem? s i h]
  congr 1
  exact (get_at s i h).symm.trans (by rw [Nat.add_zero])

theorem eE_contains (x : UInt8) (h : 128 ≤ x.toNat) : eE.data.toList.contains x = false := by
  have e : eE.data.toList = [101, 69] := rfl
  rw [e]
  have h1 : (x == 101) = false := beq_eq_false_iff_ne.2 (by rintro rfl; exact absurd h (by decide))
  have h2 : (x == 69) = false := beq_eq_false_iff_ne.2 (by rintro rfl; exact absurd h (by decide))
  simp only [List.contains, List.elem, h1, h2]

theorem noAny_skip {s : ByteArray} {i : Nat} (hno : Lib.NoAny s.data.toList eE.data.toList i) (hi : i < s.size) (h0 : eE.data.toList.contains (s.get! i) = false) :
    Lib.NoAny s.data.toList eE.data.toList (i + (Utf8.decode s i).2) := by
  have hw := decodeN_wide (s.size - i) (s.get! i).toNat (s.get! (i + 1)).toNat (s.get! (i + 2)).toNat (s.get! (i + 3)).toNat (by omega)
  rw [← Lib.decode_at] at hw
  intro j b hj hb
  by_cases h : j < i
  · exact hno j b h hb
  · have hjs : j < s.size := by omega
    rw [get!_at s j hjs] at hb
    injection hb with hb
    subst hb
    obtain ⟨k, rfl⟩ : ∃ k, j = i + k := ⟨j - i, by omega⟩
    rcases k with _ | _ | _ | _ | k
    · exact h0
    · exact eE_contains _ (hw.2.2.2.1 (by omega))
    · exact eE_contains _ (hw.2.2.2.2.1 (by omega))
    · exact eE_contains _ (hw.2.2.2.2.2.1 (by omega))
    · omega

theorem below_setIter {w wx : World} {b : Nat} {o : Obj} (hw : Below b w wx) : Below b w { wx with heap := wx.heap.setIfInBounds b o } := by
  refine ⟨hw.os, hw.tape, hw.output, ?_, fun k hk => ?_⟩
  · show w.heap.size ≤ (wx.heap.setIfInBounds b o).size
    rw [Array.size_setIfInBounds]; exact hw.size
  · show (wx.heap.setIfInBounds b o)[k]? = _
    rw [Array.getElem?_setIfInBounds, if_neg (by omega)]
    exact hw.block k hk

theorem irE_hit (s : ByteArray) (i : Nat) (hi : i < s.size) (h : eE.data.toList.contains (s.get! i) = true) : (0 : Int) ≤ irE (Utf8.decode s i).1 := by
  have hw := decodeN_wide (s.size - i) (s.get! i).toNat (s.get! (i + 1)).toNat (s.get! (i + 2)).toNat (s.get! (i + 3)).toNat (by omega)
  rw [← Lib.decode_at] at hw
  have hx : (s.get! i).toNat < 128 := by
    rcases Nat.lt_or_ge (s.get! i).toNat 128 with h' | h'
    · exact h'
    · rw [eE_contains _ h'] at h; cases h
  have hr := hw.2.2.2.2.2.2.1 hx
  have hcon := Lib.contains_iff_indexByte eE.data.toList (s.get! i)
  rw [h] at hcon
  rw [hr, irE, if_pos (by omega)]
  have e : ((((s.get! i).toNat : Nat) : Int)).toNat.toUInt8 = s.get! i := by simp
  rw [e]
  exact of_decide_eq_true hcon.symm
theorem irE_no (s : ByteArray) (i : Nat) (hi : i < s.size) (h : eE.data.toList.contains (s.get! i) = false) : ¬ (0 : Int) ≤ irE (Utf8.decode s i).1 := by
  have hw := decodeN_wide (s.size - i) (s.get! i).toNat (s.get! (i + 1)).toNat (s.get! (i + 2)).toNat (s.get! (i + 3)).toNat (by omega)
  rw [← Lib.decode_at] at hw
  have hcon := Lib.contains_iff_indexByte eE.data.toList (s.get! i)
  rw [h] at hcon
  unfold irE
  split
  · rename_i hr
    have hx : (s.get! i).toNat < 128 := by
      rcases Nat.lt_or_ge (s.get! i).toNat 128 with h' | h'
      · exact h'
      · have := hw.2.2.2.2.2.2.2 h'; omega
    have hr := hw.2.2.2.2.2.2.1 hx
    rw [hr]
    have e : ((((s.get! i).toNat : Nat) : Int)).toNat.toUInt8 = s.get! i := by simp
    rw [e]
    exact of_decide_eq_false hcon.symm
  · omega

set_option maxHeartbeats 8000000 in
set_option maxRecDepth 1000000 in
theorem IndexAny_ee_short (L : Lays.n153 P ρ) (s : ByteArray) (w : World) (h8 : s.size ≤ 8) :
    Calls P (ρ.f 153) #[.string s, .string eE] w fun e w' => e = .returned (.int .i64 (Lib.indexAny s.data.toList eE.data.toList)) ∧ Below w.heap.size w w' := by
  have hemp : eE.toList.isEmpty = false := by rw [Lib.toList_data]; rfl
  have hn1 : ((eE.size : Int) == 1) = false := by decide
  have h8z : decide ((8 : Int) < (s.size : Int)) = false := decide_eq_false (by omega)
  have t3 := L.t3; have a3 := L.a3; have z3 := L.z3; have v3 := L.v3
  have t4 := L.t4; have a4 := L.a4; have z4 := L.z4; have v4 := L.v4
  have t5 := L.t5; have a5 := L.a5; have z5 := L.z5; have v5 := L.v5
  have t9 := L.t9; have a9 := L.a9; have z9 := L.z9; have v9 := L.v9
  have t21 := L.t21; have a21 := L.a21; have z21 := L.z21; have v21 := L.v21
  have e152 : ∀ args w, (callFunc (ρ.f 152) args).run P w = .ok (.enter (ρ.f 152) args) w := enters_of L.f152 (by kernel_rfl) rfl
  have e226 : ∀ args w, (callFunc (ρ.f 226) args).run P w = .ok (.enter (ρ.f 226) args) w := enters_of L.f226 (by kernel_rfl) rfl
  go_enter L.f153, Body.n153_ntmps ρ
  go_wp2_with (go_at_fn (ρ.f 226); refine (Any.strings_shouldUseASCIISet { L with } _ _).mono ?_; rintro e w' ⟨rfl, hw⟩; rw [hw, h8z])
  go_loopg [9, 10] s.size (fun g _ _ wx => ∃ i : Nat, i + g = s.size ∧ wx.heap[w.heap.size]? = some (.stringIter s i) ∧ Below w.heap.size w wx ∧ Lib.NoAny s.data.toList eE.data.toList i)
  case atStart => exact ⟨0, by omega, World.iter_heap _ _ _, below_iter _ _ _, Lib.NoAny.zero _ _⟩
  case round =>
    obtain ⟨i, hig, hit, hbl, hno⟩ := hrel
    have HN : Aside (Lib.NoAny s.data.toList eE.data.toList i) := hno
    clear hno
    cases gk with
    | zero =>
      obtain rfl : i = s.size := by omega
      have hnx := fun ty => run_next_gend (P := P) wr w.heap.size s s.size ty hit (by omega)
      go_wp2
      go_ret
      exact ⟨by rw [Lib.indexAny_none (by rw [← Lib.size_eq]; exact HN.out)]; rfl, hbl⟩
    | succ g =>
      have hi : i < s.size := by omega
      have hnx := fun ty => run_next_gen (P := P) wr w.heap.size s i ty hit hi
      have hwd := decodeN_wide (s.size - i) (s.get! i).toNat (s.get! (i + 1)).toNat (s.get! (i + 2)).toNat (s.get! (i + 3)).toNat (by omega)
      rw [← Lib.decode_at] at hwd
      have hW1 := hwd.1
      have hW2 := hwd.2.1
      have hrv : Lib.validRune ((Utf8.decode s i).1 : Int) = true := by
        have h := Lib.decodeN_valid (s.size - i) (s.get! i).toNat (s.get! (i + 1)).toNat (s.get! (i + 2)).toNat (s.get! (i + 3)).toNat (UInt8.toNat_lt _)
        rw [← Lib.decode_at] at h
        simp only [Lib.validRune, decide_eq_true_eq]
        omega
      have HR : Aside (Lib.validRune ((Utf8.decode s i).1 : Int) = true) := hrv
      have hbl2 : Below w.heap.size w { wr with heap := wr.heap.setIfInBounds w.heap.size (.stringIter s (i + (Utf8.decode s i).2)) } := below_setIter hbl
      have hit2 : ({ wr with heap := wr.heap.setIfInBounds w.heap.size (.stringIter s (i + (Utf8.decode s i).2)) } : World).heap[w.heap.size]? = some (.stringIter s (i + (Utf8.decode s i).2)) := by
        have : w.heap.size < wr.heap.size := (Array.getElem?_eq_some_iff.1 hit).1
        show (wr.heap.setIfInBounds w.heap.size _)[w.heap.size]? = _
        rw [Array.getElem?_setIfInBounds, if_pos rfl, if_pos this]
      generalize hw2 : ({ wr with heap := wr.heap.setIfInBounds w.heap.size (.stringIter s (i + (Utf8.decode s i).2)) } : World) = w2 at *
      clear hw2 hwd hrv
      cases hin : eE.data.toList.contains (s.get! i)
      · have hlt := irE_no s i hi hin
        have hstep := noAny_skip HN.out hi hin
        have HS : Aside (Lib.NoAny s.data.toList eE.data.toList (i + (Utf8.decode s i).2)) := hstep
        clear hstep hin
        generalize hr : (Utf8.decode s i).1 = r at *
        generalize hwi : (Utf8.decode s i).2 = wi at *
        go_wp2_with (go_at_fn (ρ.f 152); refine (IndexRune_ee { L with } _ _ (by omega) HR.out).mono ?_; rintro e w3 ⟨rfl, hb3⟩)
        go_roundg (g + 1 - wi)
        case measure => omega
        case rel =>
          refine ⟨i + wi, by omega, ?_, ?_, HS.out⟩
          · rw [hb3.block _ (Array.getElem?_eq_some_iff.1 hit2).1]; exact hit2
          · exact hbl2.trans (hb3.mono hbl2.size)
      · have hge := irE_hit s i hi hin
        have HX : Aside (Lib.indexAny s.data.toList eE.data.toList = (i : Int)) := Lib.indexAny_hit HN.out (get!_at s i hi) hin
        clear hin
        generalize hr : (Utf8.decode s i).1 = r at *
        generalize hwi : (Utf8.decode s i).2 = wi at *
        go_wp2_with (go_at_fn (ρ.f 152); refine (IndexRune_ee { L with } _ _ (by omega) HR.out).mono ?_; rintro e w3 ⟨rfl, hb3⟩)
        go_ret
        exact ⟨by rw [HX.out]; rfl, hbl2.trans (hb3.mono hbl2.size)⟩

theorem IndexAny_ee (L : Lays.n153 P ρ) (hv116 : ∀ w, (zeroValue (ρ.t 116)).run P w = .ok (.agg (Array.replicate 256 (.bool false))) w) (hi116 : (P.info? (ρ.t 116)).map (·.size) = some 256) (s : ByteArray) (w : World) (hs : s.size < 4294967281) :
    Calls P (ρ.f 153) #[.string s, .string eE] w fun e w' => e = .returned (.int .i64 (Lib.indexAny s.data.toList [101, 69])) ∧ Below w.heap.size w w' := by
  rcases Nat.lt_or_ge 8 s.size with h | h
  · refine (Any.strings_IndexAny_long L hv116 hi116 s eE w (by decide) h hs (by decide) ?_).mono ?_
    · intro j b hj
      have e : eE.data.toList = [101, 69] := rfl
      rw [e] at hj
      rcases j with _ | _ | j
      · injection hj with hj; subst hj; decide
      · injection hj with hj; subst hj; decide
      · simp at hj
    · rintro e w' ⟨rfl, hw⟩
      subst hw
      exact ⟨rfl, ((Below.refl _ _).alloc (Nat.le_refl _) _).alloc (by show w.heap.size ≤ (w.heap.push _).size; rw [Array.size_push]; omega) _⟩
  · exact IndexAny_ee_short L s w h

#print axioms IndexAny_ee
end Go.Proofs

/- Contracts of the library that are met, and what the package variables hold (written by a program). -/
namespace Go.Proofs
open Go.Shelf
def Tryd.lays153_ren : Go.Shelf.Ren := ⟨fun | 153 => 55 | 152 => 70 | 226 => 71 | 227 => 72 | 228 => 73 | 137 => 58 | 119 => 81 | 224 => 82 | 225 => 83 | 217 => 76 | 266 => 86 | n => n, fun | 9 => 9 | 3 => 3 | 4 => 4 | 5 => 5 | 21 => 21 | 117 => 81 | 116 => 80 | 0 => 0 | 46 => 69 | 124 => 85 | n => n, fun | n => n⟩
theorem Tryd.lays153 : Go.Proofs.Lays.n153 Tryd.prog Tryd.lays153_ren := {
  mixed := by kernel_rfl,
  f119 := Tryd.func81.trans (congrArg some (by kernel_rfl)),
  f137 := Tryd.func58.trans (congrArg some (by kernel_rfl)),
  f152 := Tryd.func70.trans (congrArg some (by kernel_rfl)),
  f153 := Tryd.func55.trans (congrArg some (by kernel_rfl)),
  f217 := Tryd.func76.trans (congrArg some (by kernel_rfl)),
  f224 := Tryd.func82.trans (congrArg some (by kernel_rfl)),
  f225 := Tryd.func83.trans (congrArg some (by kernel_rfl)),
  f226 := Tryd.func71.trans (congrArg some (by kernel_rfl)),
  f227 := Tryd.func72.trans (congrArg some (by kernel_rfl)),
  f228 := Tryd.func73.trans (congrArg some (by kernel_rfl)),
  f266 := Tryd.func86.trans (congrArg some (by kernel_rfl)),
  t0 := Tryd.underlying0,
  a0 := Tryd.isAgg0,
  z0 := Tryd.sizeOf0,
  v0 := Tryd.zeroValue0,
  t3 := Tryd.underlying3,
  a3 := Tryd.isAgg3,
  z3 := Tryd.sizeOf3,
  v3 := Tryd.zeroValue3,
  t4 := Tryd.underlying4,
  a4 := Tryd.isAgg4,
  z4 := Tryd.sizeOf4,
  v4 := Tryd.zeroValue4,
  t5 := Tryd.underlying5,
  a5 := Tryd.isAgg5,
  z5 := Tryd.sizeOf5,
  v5 := Tryd.zeroValue5,
  t9 := Tryd.underlying9,
  a9 := Tryd.isAgg9,
  z9 := Tryd.sizeOf9,
  v9 := Tryd.zeroValue9,
  t21 := Tryd.underlying21,
  a21 := Tryd.isAgg21,
  z21 := Tryd.sizeOf21,
  v21 := Tryd.zeroValue21,
  t46 := Tryd.underlying69,
  a46 := Tryd.isAgg69,
  z46 := Tryd.sizeOf69,
  v46 := Tryd.zeroValue69,
  t116 := Tryd.underlying80,
  a116 := Tryd.isAgg80,
  z116 := Tryd.sizeOf80,
  t117 := Tryd.underlying81,
  a117 := Tryd.isAgg81,
  z117 := Tryd.sizeOf81,
  v117 := Tryd.zeroValue81,
  t124 := Tryd.underlying85,
  a124 := Tryd.isAgg85,
  z124 := Tryd.sizeOf85,
  v124 := Tryd.zeroValue85 }
def Tryd.lays196_ren : Go.Shelf.Ren := ⟨fun | 196 => 75 | 259 => 85 | n => n, fun | 9 => 9 | 4 => 4 | 3 => 3 | 5 => 5 | 12 => 12 | 119 => 87 | 0 => 0 | 46 => 69 | 139 => 90 | 138 => 89 | 53 => 91 | n => n, fun | 3 => 0 | 4 => 1 | n => n⟩
theorem Tryd.lays196 : Go.Proofs.Lays.n196 Tryd.prog Tryd.lays196_ren := {
  mixed := by kernel_rfl,
  f196 := Tryd.func75.trans (congrArg some (by kernel_rfl)),
  f259 := Tryd.func85.trans (congrArg some (by kernel_rfl)),
  t0 := Tryd.underlying0,
  a0 := Tryd.isAgg0,
  z0 := Tryd.sizeOf0,
  v0 := Tryd.zeroValue0,
  t3 := Tryd.underlying3,
  a3 := Tryd.isAgg3,
  z3 := Tryd.sizeOf3,
  v3 := Tryd.zeroValue3,
  t4 := Tryd.underlying4,
  a4 := Tryd.isAgg4,
  z4 := Tryd.sizeOf4,
  v4 := Tryd.zeroValue4,
  t5 := Tryd.underlying5,
  a5 := Tryd.isAgg5,
  z5 := Tryd.sizeOf5,
  v5 := Tryd.zeroValue5,
  t9 := Tryd.underlying9,
  a9 := Tryd.isAgg9,
  z9 := Tryd.sizeOf9,
  v9 := Tryd.zeroValue9,
  t12 := Tryd.underlying12,
  a12 := Tryd.isAgg12,
  z12 := Tryd.sizeOf12,
  v12 := Tryd.zeroValue12,
  t46 := Tryd.underlying69,
  a46 := Tryd.isAgg69,
  z46 := Tryd.sizeOf69,
  v46 := Tryd.zeroValue69,
  t53 := Tryd.underlying91,
  a53 := Tryd.isAgg91,
  z53 := Tryd.sizeOf91,
  v53 := Tryd.zeroValue91,
  t119 := Tryd.underlying87,
  a119 := Tryd.isAgg87,
  z119 := Tryd.sizeOf87,
  t138 := Tryd.underlying89,
  a138 := Tryd.isAgg89,
  z138 := Tryd.sizeOf89,
  v138 := Tryd.zeroValue89,
  t139 := Tryd.underlying90,
  a139 := Tryd.isAgg90,
  z139 := Tryd.sizeOf90,
  v139 := Tryd.zeroValue90,
  g3 := by kernel_rfl,
  g4 := by kernel_rfl }
def Tryd.lays220_ren : Go.Shelf.Ren := ⟨fun | 220 => 74 | 219 => 84 | 217 => 76 | 225 => 83 | 224 => 82 | 267 => 88 | 266 => 86 | 314 => 89 | n => n, fun | 9 => 9 | 4 => 4 | 3 => 3 | 5 => 5 | 46 => 69 | 146 => 93 | 51 => 92 | n => n, fun | 1 => 2 | n => n⟩
theorem Tryd.lays220 : Go.Proofs.Lays.n220 Tryd.prog Tryd.lays220_ren := {
  mixed := by kernel_rfl,
  f217 := Tryd.func76.trans (congrArg some (by kernel_rfl)),
  f219 := Tryd.func84.trans (congrArg some (by kernel_rfl)),
  f220 := Tryd.func74.trans (congrArg some (by kernel_rfl)),
  f224 := Tryd.func82.trans (congrArg some (by kernel_rfl)),
  f225 := Tryd.func83.trans (congrArg some (by kernel_rfl)),
  f266 := Tryd.func86.trans (congrArg some (by kernel_rfl)),
  f267 := Tryd.func88.trans (congrArg some (by kernel_rfl)),
  f314 := Tryd.func89.trans (congrArg some (by kernel_rfl)),
  t3 := Tryd.underlying3,
  a3 := Tryd.isAgg3,
  z3 := Tryd.sizeOf3,
  v3 := Tryd.zeroValue3,
  t4 := Tryd.underlying4,
  a4 := Tryd.isAgg4,
  z4 := Tryd.sizeOf4,
  v4 := Tryd.zeroValue4,
  t5 := Tryd.underlying5,
  a5 := Tryd.isAgg5,
  z5 := Tryd.sizeOf5,
  v5 := Tryd.zeroValue5,
  t9 := Tryd.underlying9,
  a9 := Tryd.isAgg9,
  z9 := Tryd.sizeOf9,
  v9 := Tryd.zeroValue9,
  t46 := Tryd.underlying69,
  a46 := Tryd.isAgg69,
  z46 := Tryd.sizeOf69,
  v46 := Tryd.zeroValue69,
  t51 := Tryd.underlying92,
  a51 := Tryd.isAgg92,
  z51 := Tryd.sizeOf92,
  v51 := Tryd.zeroValue92,
  t146 := Tryd.underlying93,
  a146 := Tryd.isAgg93,
  z146 := Tryd.sizeOf93,
  v146 := Tryd.zeroValue93,
  g1 := by kernel_rfl }
def Tryd.lays144_ren : Go.Shelf.Ren := ⟨fun | 144 => 64 | 143 => 77 | 219 => 84 | 217 => 76 | 225 => 83 | 224 => 82 | 267 => 88 | 266 => 86 | 314 => 89 | n => n, fun | 9 => 9 | 4 => 4 | 3 => 3 | 5 => 5 | 46 => 69 | 146 => 93 | 51 => 92 | n => n, fun | 1 => 2 | n => n⟩
theorem Tryd.lays144 : Go.Proofs.Lays.n144 Tryd.prog Tryd.lays144_ren := {
  mixed := by kernel_rfl,
  f143 := Tryd.func77.trans (congrArg some (by kernel_rfl)),
  f144 := Tryd.func64.trans (congrArg some (by kernel_rfl)),
  f217 := Tryd.func76.trans (congrArg some (by kernel_rfl)),
  f219 := Tryd.func84.trans (congrArg some (by kernel_rfl)),
  f224 := Tryd.func82.trans (congrArg some (by kernel_rfl)),
  f225 := Tryd.func83.trans (congrArg some (by kernel_rfl)),
  f266 := Tryd.func86.trans (congrArg some (by kernel_rfl)),
  f267 := Tryd.func88.trans (congrArg some (by kernel_rfl)),
  f314 := Tryd.func89.trans (congrArg some (by kernel_rfl)),
  t3 := Tryd.underlying3,
  a3 := Tryd.isAgg3,
  z3 := Tryd.sizeOf3,
  v3 := Tryd.zeroValue3,
  t4 := Tryd.underlying4,
  a4 := Tryd.isAgg4,
  z4 := Tryd.sizeOf4,
  v4 := Tryd.zeroValue4,
  t5 := Tryd.underlying5,
  a5 := Tryd.isAgg5,
  z5 := Tryd.sizeOf5,
  v5 := Tryd.zeroValue5,
  t9 := Tryd.underlying9,
  a9 := Tryd.isAgg9,
  z9 := Tryd.sizeOf9,
  v9 := Tryd.zeroValue9,
  t46 := Tryd.underlying69,
  a46 := Tryd.isAgg69,
  z46 := Tryd.sizeOf69,
  v46 := Tryd.zeroValue69,
  t51 := Tryd.underlying92,
  a51 := Tryd.isAgg92,
  z51 := Tryd.sizeOf92,
  v51 := Tryd.zeroValue92,
  t146 := Tryd.underlying93,
  a146 := Tryd.isAgg93,
  z146 := Tryd.sizeOf93,
  v146 := Tryd.zeroValue93,
  g1 := by kernel_rfl }
def Tryd.lays217_ren : Go.Shelf.Ren := ⟨fun | 217 => 76 | 266 => 86 | n => n, fun | 9 => 9 | 5 => 5 | 3 => 3 | n => n, fun | n => n⟩
theorem Tryd.lays217 : Go.Proofs.Lays.n217 Tryd.prog Tryd.lays217_ren := {
  mixed := by kernel_rfl,
  f217 := Tryd.func76.trans (congrArg some (by kernel_rfl)),
  f266 := Tryd.func86.trans (congrArg some (by kernel_rfl)),
  t3 := Tryd.underlying3,
  a3 := Tryd.isAgg3,
  z3 := Tryd.sizeOf3,
  v3 := Tryd.zeroValue3,
  t5 := Tryd.underlying5,
  a5 := Tryd.isAgg5,
  z5 := Tryd.sizeOf5,
  v5 := Tryd.zeroValue5,
  t9 := Tryd.underlying9,
  a9 := Tryd.isAgg9,
  z9 := Tryd.sizeOf9,
  v9 := Tryd.zeroValue9 }
end Go.Proofs
namespace Go.Proofs.YtljggmbgbnmapaaDoorV
open Go
set_option linter.unusedVariables false
set_option maxRecDepth 100000
/-- What the package variables hold. -/
def gOk (w : World) : Prop := (Lib.Utf8Tabs 0 1 w) ∧ (∃ m, w.cell? ⟨2, 0, none⟩ = some (.int .i64 m))
theorem gOk_dep (w w' : World) (h : ∀ b, (b = 0 ∨ b = 1 ∨ b = 2) → w'.heap[b]? = w.heap[b]?) (k : gOk w) : gOk w' := by
  have h0 : ∀ o, w'.cell? ⟨0, o, none⟩ = w.cell? ⟨0, o, none⟩ := fun o => World.cell?_of_block (h 0 (by simp))
  have h1 : ∀ o, w'.cell? ⟨1, o, none⟩ = w.cell? ⟨1, o, none⟩ := fun o => World.cell?_of_block (h 1 (by simp))
  have h2 : ∀ o, w'.cell? ⟨2, o, none⟩ = w.cell? ⟨2, o, none⟩ := fun o => World.cell?_of_block (h 2 (by simp))
  obtain ⟨⟨k1, k2⟩, m, k3⟩ := k
  exact ⟨⟨fun c hc => (h0 _).trans (k1 c hc), fun i hi => ⟨(h1 _).trans (k2 i hi).1, (h1 _).trans (k2 i hi).2⟩⟩, m, (h2 _).trans k3⟩
def G : Glob := ⟨fun b => b = 0 ∨ b = 1 ∨ b = 2, gOk, gOk_dep⟩
/-- strings.IndexAny: what is answered. -/
def qIndexAny (v : List DC) : Option (List DC) := match v with
  | [.s s, .s c] => if s.length < 4294967281 ∧ c = [101, 69] then some [.i (Lib.indexAny s [101, 69])] else none
  | _ => none
theorem call_IndexAny (v r : List DC) (w : World) (hq : qIndexAny v = some r) (hG : G.ok w) : Calls Tryd.prog 55 (lits [.s, .s] v 0).toArray w fun e w' => e = .returned (resVal (lits [.i .i64] r 0)) ∧ RowKit.Below w.heap.size w w' := by
  unfold qIndexAny at hq
  split at hq
  · rename_i s c
    split at hq
    · rename_i hs
      obtain ⟨hs, rfl⟩ := hs
      injection hq with hq
      subst hq
      have h116 : (Tryd.prog.info? (Tryd.lays153_ren.t 116)).map (fun i => (i.zero, i.size)) = some (some (.agg (Array.replicate 256 (.bool false))), 256) := by kernel_rfl
      refine Calls.mono (IndexAny_ee Tryd.lays153 (zero_of_info h116).1 (zero_of_info h116).2 ⟨s.toArray⟩ w (by rw [Lib.size_eq]; simpa using hs)) fun e w' h => ?_
      obtain ⟨rfl, h⟩ := h
      exact ⟨rfl, h⟩
    · cases hq
  · cases hq
/-- unicode/utf8.ValidString: what is answered. -/
def qValidString (v : List DC) : Option (List DC) := match v with
  | [.s s] => if s.length ≤ 9223372036854775807 then some [.b (Lib.validD s)] else none
  | _ => none
theorem call_ValidString (v r : List DC) (w : World) (hq : qValidString v = some r) (hG : G.ok w) : Calls Tryd.prog 75 (lits [.s] v 0).toArray w fun e w' => e = .returned (resVal (lits [.b] r 0)) ∧ RowKit.Below w.heap.size w w' := by
  unfold qValidString at hq
  split at hq
  · rename_i s
    split at hq
    · rename_i hs
      injection hq with hq
      subst hq
      refine Calls.mono (Any.utf8_ValidString Tryd.lays196 ⟨s.toArray⟩ w (by rw [Lib.size_eq]; simpa using hs) hG.1) fun e w' h => ?_
      obtain ⟨rfl, h⟩ := h
      exact ⟨rfl, h⟩
    · cases hq
  · cases hq
/-- internal/stringslite.Cut: what is answered. -/
def qCut (v : List DC) : Option (List DC) := match v with
  | [.s s, .s c] => if s.length < 4294967281 then some [.s (Lib.cut s c).1, .s (Lib.cut s c).2.1, .b (Lib.cut s c).2.2] else none
  | _ => none
theorem call_Cut (v r : List DC) (w : World) (hq : qCut v = some r) (hG : G.ok w) : Calls Tryd.prog 74 (lits [.s, .s] v 0).toArray w fun e w' => e = .returned (resVal (lits [.s, .s, .b] r 0)) ∧ RowKit.Below w.heap.size w w' := by
  unfold qCut at hq
  split at hq
  · rename_i s c
    split at hq
    · rename_i hs
      injection hq with hq
      subst hq
      obtain ⟨m, hm⟩ := hG.2
      refine Calls.mono (Any.stringslite_Cut Tryd.lays220 ⟨s.toArray⟩ ⟨c.toArray⟩ m w (by rw [Lib.size_eq]; simpa using hs) hm) fun e w' h => ?_
      obtain ⟨rfl, k, rfl⟩ := h
      exact ⟨rfl, below_drewN _ _⟩
    · cases hq
  · cases hq
/-- strings.Contains: what is answered. -/
def qContains (v : List DC) : Option (List DC) := match v with
  | [.s s, .s c] => if s.length < 4294967281 then some [.b (Lib.contains s c)] else none
  | _ => none
theorem call_Contains (v r : List DC) (w : World) (hq : qContains v = some r) (hG : G.ok w) : Calls Tryd.prog 64 (lits [.s, .s] v 0).toArray w fun e w' => e = .returned (resVal (lits [.b] r 0)) ∧ RowKit.Below w.heap.size w w' := by
  unfold qContains at hq
  split at hq
  · rename_i s c
    split at hq
    · rename_i hs
      injection hq with hq
      subst hq
      obtain ⟨m, hm⟩ := hG.2
      refine Calls.mono (Any.strings_Contains Tryd.lays144 ⟨s.toArray⟩ ⟨c.toArray⟩ m w (by rw [Lib.size_eq]; simpa using hs) hm) fun e w' h => ?_
      obtain ⟨rfl, rfl⟩ := h
      exact ⟨rfl, RowKit.Below.refl _ _⟩
    · cases hq
  · cases hq
/-- internal/stringslite.IndexByte: what is answered. -/
def qIndexByte (v : List DC) : Option (List DC) := match v with
  | [.s s, .i c] => some [.i (Lib.indexByte s c.toNat.toUInt8)]
  | _ => none
theorem call_IndexByte (v r : List DC) (w : World) (hq : qIndexByte v = some r) (hG : G.ok w) : Calls Tryd.prog 76 (lits [.s, .i .u8] v 0).toArray w fun e w' => e = .returned (resVal (lits [.i .i64] r 0)) ∧ RowKit.Below w.heap.size w w' := by
  unfold qIndexByte at hq
  split at hq
  · rename_i s c
    injection hq with hq
    subst hq
    refine Calls.mono (Any.stringslite_IndexByte Tryd.lays217 ⟨s.toArray⟩ c w) fun e w' h => ?_
    obtain ⟨rfl, rfl⟩ := h
    exact ⟨rfl, RowKit.Below.refl _ _⟩
  · cases hq
end Go.Proofs.YtljggmbgbnmapaaDoorV

/- The tables and the notes (written by a program). -/
namespace Go.Proofs.YtljggmbgbnmapaaDoorV
open Go
set_option linter.unusedVariables false
set_option maxRecDepth 100000
noncomputable def tyL : List (Nat × TI) := [(3, ⟨.int .i64, [.i .i64], 8, [], false⟩),
  (4, ⟨.bool, [.b], 1, [], false⟩),
  (5, ⟨.int .u8, [.i .u8], 1, [], false⟩),
  (9, ⟨.str, [.s], 16, [], false⟩),
  (22, ⟨.slice 25, [.sl 25], 24, [], false⟩),
  (23, ⟨.slice 9, [.sl 9], 24, [], false⟩),
  (25, ⟨.struct, [.i .i64, .s, .sl 25, .sl 9], 72, [(0, 1, false), (1, 1, false), (2, 1, false), (3, 1, false)], false⟩),
  (28, ⟨.slice 30, [.sl 30], 24, [], false⟩),
  (30, ⟨.struct, [.i .i64, .s, .sl 30, .sl 9], 72, [(0, 1, false), (1, 1, false), (2, 1, false), (3, 1, false)], false⟩),
  (34, ⟨.slice 50, [.sl 50], 24, [], false⟩),
  (37, ⟨.slice 53, [.sl 53], 24, [], false⟩),
  (50, ⟨.struct, [.i .i64, .s, .i .i64], 32, [(0, 1, false), (1, 1, false), (2, 1, false)], false⟩),
  (51, ⟨.slice 5, [.sl 5], 24, [], false⟩),
  (53, ⟨.struct, [.i .i64, .s, .i .i64], 32, [(0, 1, false), (1, 1, false), (2, 1, false)], false⟩)]
noncomputable def h_laws_FnExactJsonOk : Hint := ⟨[.agg [.i .i64, .s, .sl 25, .sl 9]], []⟩
noncomputable def h_laws_FnExactShortText : Hint := ⟨[.one (.sl 50)], []⟩
noncomputable def h_laws_szJson : Hint := ⟨[.agg [.i .i64, .s, .sl 25, .sl 9], .one (.i .i64)], []⟩
noncomputable def h_laws_toJson : Hint := ⟨[.agg [.i .i64, .s, .sl 25, .sl 9]], []⟩
noncomputable def h_spec_JsonOk : Hint := ⟨[.agg [.i .i64, .s, .sl 30, .sl 9]], []⟩
noncomputable def h_impl_JsonOk : Hint := ⟨[.agg [.i .i64, .s, .sl 30, .sl 9]], []⟩
noncomputable def h_laws_eqJson : Hint := ⟨[.agg [.i .i64, .s, .sl 30, .sl 9], .agg [.i .i64, .s, .sl 30, .sl 9]], []⟩
noncomputable def h_laws_szTokenS : Hint := ⟨[.one (.sl 50), .one (.i .i64)], []⟩
noncomputable def h_laws_toTokenS : Hint := ⟨[.one (.sl 50)], []⟩
noncomputable def h_spec_ShortText : Hint := ⟨[.one (.sl 53)], []⟩
noncomputable def h_impl_ShortText : Hint := ⟨[.one (.sl 53)], []⟩
noncomputable def h_laws_eqTokenS : Hint := ⟨[.one (.sl 53), .one (.sl 53)], []⟩
noncomputable def h_laws_szJsonS : Hint := ⟨[.one (.sl 25), .one (.i .i64)], []⟩
noncomputable def h_laws_szStringS : Hint := ⟨[.one (.sl 9), .one (.i .i64)], []⟩
noncomputable def h_laws_toJsonS : Hint := ⟨[.one (.sl 25)], []⟩
noncomputable def h_laws_toStringS : Hint := ⟨[.one (.sl 9)], []⟩
noncomputable def h_spec_l22Right : Hint := ⟨[.agg [.i .i64, .s, .sl 30, .sl 9], .one (.i .i64)], []⟩
noncomputable def h_impl_jsonOk : Hint := ⟨[.agg [.i .i64, .s, .sl 30, .sl 9], .one (.i .i64)], []⟩
noncomputable def h_laws_eqJsonS : Hint := ⟨[.one (.sl 30), .one (.sl 30)], []⟩
noncomputable def h_laws_eqStringS : Hint := ⟨[.one (.sl 9), .one (.sl 9)], []⟩
noncomputable def h_laws_szToken : Hint := ⟨[.agg [.i .i64, .s, .i .i64], .one (.i .i64)], []⟩
noncomputable def h_laws_toToken : Hint := ⟨[.agg [.i .i64, .s, .i .i64]], []⟩
noncomputable def h_spec_TokenOk : Hint := ⟨[.agg [.i .i64, .s, .i .i64]], []⟩
noncomputable def h_spec_Apart : Hint := ⟨[.agg [.i .i64, .s, .i .i64], .agg [.i .i64, .s, .i .i64]], []⟩
noncomputable def h_spec_TokenText : Hint := ⟨[.agg [.i .i64, .s, .i .i64]], []⟩
noncomputable def h_impl_TokenOk : Hint := ⟨[.agg [.i .i64, .s, .i .i64]], []⟩
noncomputable def h_impl_Apart : Hint := ⟨[.agg [.i .i64, .s, .i .i64], .agg [.i .i64, .s, .i .i64]], []⟩
noncomputable def h_impl_TokenText : Hint := ⟨[.agg [.i .i64, .s, .i .i64]], []⟩
noncomputable def h_laws_eqToken : Hint := ⟨[.agg [.i .i64, .s, .i .i64], .agg [.i .i64, .s, .i .i64]], []⟩
noncomputable def h_spec_IntOk : Hint := ⟨[.one .s], []⟩
noncomputable def h_spec_FloatOk : Hint := ⟨[.one .s], []⟩
noncomputable def h_spec_Escaped : Hint := ⟨[.one .s], []⟩
noncomputable def h_impl_IntOk : Hint := ⟨[.one .s], []⟩
noncomputable def h_impl_FloatOk : Hint := ⟨[.one .s], []⟩
noncomputable def h_impl_Escaped : Hint := ⟨[.one .s], []⟩
noncomputable def h_slices_ContainsFunc_string__impl_jsonOk_1 : Hint := ⟨[.one (.sl 9), .one (.fn 39 [])], []⟩
noncomputable def h_slices_ContainsFunc_impl_Json__impl_jsonOk_2 : Hint := ⟨[.one (.sl 30), .one (.fn 41 [0])], [.var 3 [.i .i64]]⟩
noncomputable def h_spec_SignOk : Hint := ⟨[.one .s], []⟩
noncomputable def h_spec_NameOk : Hint := ⟨[.one .s], []⟩
noncomputable def h_spec_l15Wordy : Hint := ⟨[.agg [.i .i64, .s, .i .i64]], []⟩
noncomputable def h_impl_SignOk : Hint := ⟨[.one .s], []⟩
noncomputable def h_impl_NameOk : Hint := ⟨[.one .s], []⟩
noncomputable def h_impl_Apart_1 : Hint := ⟨[.agg [.i .i64, .s, .i .i64]], []⟩
noncomputable def h_impl_isNumber : Hint := ⟨[.agg [.i .i64, .s, .i .i64]], []⟩
noncomputable def h_spec_l03Int : Hint := ⟨[.one .s], []⟩
noncomputable def h_spec_l03Run : Hint := ⟨[.one .s, .one (.i .i64)], []⟩
noncomputable def h_spec_TextOk : Hint := ⟨[.one .s], []⟩
noncomputable def h_spec_l04Hex4 : Hint := ⟨[.one (.i .i64)], []⟩
noncomputable def h_strings_TrimPrefix : Hint := ⟨[.one .s, .one .s], []⟩
noncomputable def h_impl_figures : Hint := ⟨[.one .s], []⟩
noncomputable def h_strings_IndexAny : Hint := ⟨[.one .s, .one .s], []⟩
noncomputable def h_strings_Cut : Hint := ⟨[.one .s, .one .s], []⟩
noncomputable def h_impl_TextOk : Hint := ⟨[.one .s], []⟩
noncomputable def h_strings_IndexByte : Hint := ⟨[.one .s, .one (.i .u8)], []⟩
noncomputable def h_slices_IndexFunc_string__impl_jsonOk_1 : Hint := ⟨[.one (.sl 9), .one (.fn 39 [])], []⟩
noncomputable def h_slices_IndexFunc_impl_Json__impl_jsonOk_2 : Hint := ⟨[.one (.sl 30), .one (.fn 41 [0])], [.var 3 [.i .i64]]⟩
noncomputable def h_spec_l03Figure : Hint := ⟨[.one (.i .u8)], []⟩
noncomputable def h_spec_l03Letter : Hint := ⟨[.one (.i .u8)], []⟩
noncomputable def h_spec_l01In : Hint := ⟨[.one (.i .i64), .one (.i .i64), .one (.i .i64)], []⟩
noncomputable def h_strings_Contains : Hint := ⟨[.one .s, .one .s], []⟩
noncomputable def h_impl_in : Hint := ⟨[.one (.i .i64), .one (.i .i64), .one (.i .i64)], []⟩
noncomputable def h_impl_isFigure : Hint := ⟨[.one (.i .u8)], []⟩
noncomputable def h_impl_inName : Hint := ⟨[.one (.i .u8)], []⟩
noncomputable def h_spec_RuneAt : Hint := ⟨[.one .s, .one (.i .i64)], []⟩
noncomputable def h_internal_stringslite_TrimPrefix : Hint := ⟨[.one .s, .one .s], []⟩
noncomputable def h_internal_stringslite_Cut : Hint := ⟨[.one .s, .one .s], []⟩
noncomputable def h_unicode_utf8_ValidString : Hint := ⟨[.one .s], []⟩
noncomputable def h_internal_stringslite_IndexByte : Hint := ⟨[.one .s, .one (.i .u8)], []⟩
noncomputable def h_impl_jsonOk_1 : Hint := ⟨[.one .s], []⟩
noncomputable def h_impl_jsonOk_2 : Hint := ⟨[.agg [.i .i64, .s, .sl 30, .sl 9], .one (.ptr 0 0)], [.var 3 [.i .i64]]⟩
noncomputable def h_impl_isLetter : Hint := ⟨[.one (.i .u8)], []⟩
noncomputable def h_spec_RuneText : Hint := ⟨[.one (.i .i64)], []⟩
noncomputable def h_internal_stringslite_HasPrefix : Hint := ⟨[.one .s, .one .s], []⟩
noncomputable def h_spec_l02Scalar : Hint := ⟨[.one (.i .i64)], []⟩
noncomputable def fi3 : FI := mkFI Tryd.f3 2 [.ag [.i .i64, .s, .sl 25, .sl 9]] [(false, [.ct .b])] (fun _ => (.s (.r [0, 0] none) (.s .n (.s .n (.s .n (.s .n (.s (.r [0, 0, 1, 0] none) .n)))))))
noncomputable def fi4 : FI := mkFI Tryd.f4 0 [.ct (.sl 50)] [(false, [.ct .b])] (fun _ => .n)
noncomputable def fi5 : FI := mkFI Tryd.f5 1 [.ag [.i .i64, .s, .sl 25, .sl 9], .ct (.i .i64)] [(false, [.ct (.i .i64)])] (fun _ => (.s (.r [0, 0] none) .n))
noncomputable def fi7 : FI := mkFI Tryd.f7 3 [.ag [.i .i64, .s, .sl 25, .sl 9]] [(true, [.ct (.i .i64), .ct .s, .ct (.sl 30), .ct (.sl 9)])] (fun _ => (.s (.r [0, 1] none) (.s (.r [2] none) .n)))
noncomputable def fi6 : FI := mkFI Tryd.f6 1 [.ag [.i .i64, .s, .sl 30, .sl 9]] [(false, [.ct .b])] (fun _ => (.s (.r [0, 0] none) .n))
noncomputable def fi8 : FI := mkFI Tryd.f8 1 [.ag [.i .i64, .s, .sl 30, .sl 9]] [(false, [.ct .b])] (fun _ => (.s (.r [0, 0] none) .n))
noncomputable def fi9 : FI := mkFI Tryd.f9 2 [.ag [.i .i64, .s, .sl 30, .sl 9], .ag [.i .i64, .s, .sl 30, .sl 9]] [(false, [.ct .b])] (fun _ => (.s (.r [0, 1, 0] none) .n))
noncomputable def fi10 : FI := mkFI Tryd.f10 0 [.ct (.sl 50), .ct (.i .i64)] [(false, [.ct (.i .i64)])] (fun _ => (.s .n (.s .n (.s .n (.s (.s .n (.b (.b (.s .n (.s (.b .n ⟨[.one (.sl 50), .one (.i .i64), .one .u, .one .u, .one .u, .one (.i .i64), .one .u, .one .u, .one .u, .one .u, .one .u, .one .u, .one .u, .one .u, .one .u, .one .u, .one .u, .one .u, .one .u, .one .u, .one .u, .one .u, .one .u, .one .u, .one .u, .one .u, .one .u], []⟩) .n)) ⟨[.one (.sl 50), .one (.i .i64), .one .u, .one .u, .one .u, .one (.i .i64), .one .u, .one .u, .one .u, .one .u, .one .u, .one .u, .one .u, .one .u, .one .u, .one .u, .one .u, .one .u, .one .u, .one .u, .one .u, .one .u, .one .u, .one .u, .one .u, .one .u, .one .u], []⟩) ⟨[.one .u, .one (.i .i64), .one .u, .one .u, .one .u, .one .u, .one .u, .one .u, .one .u, .one .u, .one .u, .one .u, .one .u, .one .u, .one .u, .one .u, .one .u, .one .u, .one .u, .one .u, .one .u, .one .u, .one .u, .one .u, .one .u, .one .u, .one .u], []⟩)) .n)))))
noncomputable def fi12 : FI := mkFI Tryd.f12 4 [.ct (.sl 50)] [(false, [.ct (.sl 53)])] (fun _ => (.s .n (.s (.r [0, 0, 0, 0] none) (.s (.s .n (.b (.b (.s .n (.s (.b .n ⟨[.one (.sl 50), .one .u, .one .u, .one (.own 53 2), .one (.i .i64), .one .u, .one .u, .one .u, .one .u, .one .u, .one .u, .one .u, .one .u, .one .u, .one .u, .one .u, .one .u, .one .u, .one .u, .one .u, .one .u, .one .u, .one .u], [.u, .u, .u, .u]⟩) .n)) ⟨[.one (.sl 50), .one .u, .one .u, .one (.own 53 1), .one (.i .i64), .one .u, .one .u, .one .u, .one .u, .one .u, .one .u, .one .u, .one .u, .one .u, .one .u, .one .u, .one .u, .one .u, .one .u, .one .u, .one .u, .one .u, .one .u], [.u, .u, .u, .u]⟩) ⟨[.one .u, .one .u, .one .u, .one (.own 53 3), .one .u, .one .u, .one .u, .one .u, .one .u, .one .u, .one .u, .one .u, .one .u, .one .u, .one .u, .one .u, .one .u, .one .u, .one .u, .one .u, .one .u, .one .u, .one .u], [.u, .u, .u, .u]⟩)) .n))))
noncomputable def fi11 : FI := mkFI Tryd.f11 9 [.ct (.sl 53)] [(false, [.ct .s])] (fun _ => (.s .n (.s .n (.s (.r [0, 0] none) (.s (.s .n (.b (.b (.s .n (.s (.b (.s .n (.s (.s (.r [] (some ⟨[.one (.sl 53), .one .u, .one .u, .one (.own 5 2), .one (.i .i64), .one .u, .one .u, .one .u, .one .u, .one .u, .one .u, .one .u, .one .u, .one .u, .one .u, .one .u, .one .u, .one .u, .one .u, .one .u, .one .u, .one .u, .one .u, .one .u, .one .u, .one .u, .one .u, .one .u, .one .u, .one .u, .one .u, .one .u, .one .u, .one .u, .one .b, .one .u, .one .u, .one .u, .one .u, .one .u, .one .u, .one .u, .one .u, .one .u, .one .u, .one .u, .one .u, .one .u, .one .u, .one .u], [.u, .u, .u, .u, .u, .u, .u, .u, .u]⟩)) (.c (.r [0, 3, 4, 0] none) .n (some ⟨[.one (.sl 53), .one .u, .one .u, .one (.own 5 5), .one (.i .i64), .one .u, .one .u, .one .u, .one .u, .one .u, .one .u, .one .u, .one .u, .one .u, .one .u, .one .u, .one .u, .one .u, .one .u, .one .u, .one .u, .one .u, .one .u, .one .u, .one .u, .one .u, .one .u, .one .u, .one .u, .one .u, .one .u, .one .u, .one .u, .one .u, .one .u, .one .u, .one .u, .one .u, .one .u, .one .u, .one .u, .one .u, .one .u, .one .u, .one .u, .one .u, .one .u, .one .u, .one .u, .one .u], [.u, .u, .u, .u, .u, .u, .u, .u, .u]⟩))) (.s (.r [0, 0, 0, 0, 0, 0, 6, 0] none) .n))) ⟨[.one (.sl 53), .one .u, .one .u, .one (.own 5 7), .one (.i .i64), .one .u, .one .u, .one .u, .one .u, .one .u, .one .u, .one .u, .one .u, .one .u, .one .u, .one .u, .one .u, .one .u, .one .u, .one .u, .one .u, .one .u, .one .u, .one .u, .one .u, .one .u, .one .u, .one .u, .one .u, .one .u, .one .u, .one .u, .one .u, .one .u, .one .u, .one .u, .one .u, .one .u, .one .u, .one .u, .one .u, .one .u, .one .u, .one .u, .one .u, .one .u, .one .u, .one .u, .one .u, .one .u], [.u, .u, .u, .u, .u, .u, .u, .u, .u]⟩) .n)) ⟨[.one (.sl 53), .one .u, .one .u, .one (.own 5 1), .one (.i .i64), .one .u, .one .u, .one .u, .one .u, .one .u, .one .u, .one .u, .one .u, .one .u, .one .u, .one .u, .one .u, .one .u, .one .u, .one .u, .one .u, .one .u, .one .u, .one .u, .one .u, .one .u, .one .u, .one .u, .one .u, .one .u, .one .u, .one .u, .one .u, .one .u, .one .u, .one .u, .one .u, .one .u, .one .u, .one .u, .one .u, .one .u, .one .u, .one .u, .one .u, .one .u, .one .u, .one .u, .one .u, .one .u], [.u, .u, .u, .u, .u, .u, .u, .u, .u]⟩) ⟨[.one .u, .one .u, .one .u, .one (.own 5 8), .one .u, .one .u, .one .u, .one .u, .one .u, .one .u, .one .u, .one .u, .one .u, .one .u, .one .u, .one .u, .one .u, .one .u, .one .u, .one .u, .one .u, .one .u, .one .u, .one .u, .one .u, .one .u, .one .u, .one .u, .one .u, .one .u, .one .u, .one .u, .one .u, .one .u, .one .u, .one .u, .one .u, .one .u, .one .u, .one .u, .one .u, .one .u, .one .u, .one .u, .one .u, .one .u, .one .u, .one .u, .one .u, .one .u], [.u, .u, .u, .u, .u, .u, .u, .u, .u]⟩)) .n)))))
noncomputable def fi13 : FI := mkFI Tryd.f13 10 [.ct (.sl 53)] [(false, [.ct .s])] (fun _ => (.s .n (.s .n (.s (.r [0, 0] none) (.s (.s .n (.b (.b (.s .n (.s .n (.s (.b (.s (.r [0, 0, 0, 2, 0, 0] none) (.s .n (.s (.s (.r [] (some ⟨[.one (.sl 53), .one .u, .one .u, .one (.own 5 3), .one .u, .one (.ptr 2 0), .one .u, .one .u, .one .u, .one .u, .one (.sl 53), .one (.i .i64), .one (.i .i64), .one .u, .one .u, .one .u, .one .u, .one .u, .one .u, .one .u, .one .u, .one .u, .one .u, .one .u, .one .u, .one .u, .one .u, .one .u, .one .u, .one .u, .one .b, .one .u, .one .u, .one .u, .one .u, .one .u, .one .u, .one .u, .one .u, .one .u, .one .u, .one .u, .one .u, .one .u], [.u, .u, .var 53 [.i .i64, .s, .i .i64], .u, .u, .u, .u, .u, .u, .u]⟩)) (.c (.r [0, 4, 5, 0] none) .n (some ⟨[.one (.sl 53), .one .u, .one .u, .one (.own 5 6), .one .u, .one (.ptr 2 0), .one .u, .one .u, .one .u, .one .u, .one (.sl 53), .one (.i .i64), .one (.i .i64), .one .u, .one .u, .one .u, .one .u, .one .u, .one .u, .one .u, .one .u, .one .u, .one .u, .one .u, .one .u, .one .u, .one .u, .one .u, .one .u, .one .u, .one .u, .one .u, .one .u, .one .u, .one .u, .one .u, .one .u, .one .u, .one .u, .one .u, .one .u, .one .u, .one .u, .one .u], [.u, .u, .var 53 [.i .i64, .s, .i .i64], .u, .u, .u, .u, .u, .u, .u]⟩))) (.r [0, 0, 0, 7, 0] none)))) ⟨[.one (.sl 53), .one .u, .one .u, .one (.own 5 8), .one .u, .one .u, .one .u, .one .u, .one .u, .one .u, .one (.sl 53), .one (.i .i64), .one (.i .i64), .one .u, .one .u, .one .u, .one .u, .one .u, .one .u, .one .u, .one .u, .one .u, .one .u, .one .u, .one .u, .one .u, .one .u, .one .u, .one .u, .one .u, .one .u, .one .u, .one .u, .one .u, .one .u, .one .u, .one .u, .one .u, .one .u, .one .u, .one .u, .one .u, .one .u, .one .u], [.u, .u, .u, .u, .u, .u, .u, .u, .u, .u]⟩) .n))) ⟨[.one (.sl 53), .one .u, .one .u, .one (.own 5 1), .one .u, .one .u, .one .u, .one .u, .one .u, .one .u, .one (.sl 53), .one (.i .i64), .one (.i .i64), .one .u, .one .u, .one .u, .one .u, .one .u, .one .u, .one .u, .one .u, .one .u, .one .u, .one .u, .one .u, .one .u, .one .u, .one .u, .one .u, .one .u, .one .u, .one .u, .one .u, .one .u, .one .u, .one .u, .one .u, .one .u, .one .u, .one .u, .one .u, .one .u, .one .u, .one .u], [.u, .u, .u, .u, .u, .u, .u, .u, .u, .u]⟩) ⟨[.one .u, .one .u, .one .u, .one (.own 5 9), .one .u, .one .u, .one .u, .one .u, .one .u, .one .u, .one .u, .one .u, .one .u, .one .u, .one .u, .one .u, .one .u, .one .u, .one .u, .one .u, .one .u, .one .u, .one .u, .one .u, .one .u, .one .u, .one .u, .one .u, .one .u, .one .u, .one .u, .one .u, .one .u, .one .u, .one .u, .one .u, .one .u, .one .u, .one .u, .one .u, .one .u, .one .u, .one .u, .one .u], [.u, .u, .u, .u, .u, .u, .u, .u, .u, .u]⟩)) .n)))))
noncomputable def fi14 : FI := mkFI Tryd.f14 0 [.ct (.sl 53), .ct (.sl 53)] [(false, [.ct .b])] (fun _ => (.s .n (.s .n (.s (.s .n (.b (.b (.s .n (.s (.b .n ⟨[.one (.sl 53), .one (.sl 53), .one .u, .one .u, .one .u, .one (.i .i64), .one .u, .one .u, .one .u, .one .u, .one .u, .one .u, .one .u, .one .u, .one .u, .one .u, .one .u, .one .u, .one .u, .one .u, .one .u, .one .u, .one .u, .one .u, .one .u, .one .u, .one .u], []⟩) .n)) ⟨[.one (.sl 53), .one (.sl 53), .one .u, .one .u, .one .u, .one (.i .i64), .one .u, .one .u, .one .u, .one .u, .one .u, .one .u, .one .u, .one .u, .one .u, .one .u, .one .u, .one .u, .one .u, .one .u, .one .u, .one .u, .one .u, .one .u, .one .u, .one .u, .one .u], []⟩) ⟨[.one .u, .one .u, .one .u, .one .u, .one .u, .one .u, .one .u, .one .u, .one .u, .one .u, .one .u, .one .u, .one .u, .one .u, .one .u, .one .u, .one .u, .one .u, .one .u, .one .u, .one .u, .one .u, .one .u, .one .u, .one .u, .one .u, .one .u], []⟩)) .n))))
noncomputable def fi15 : FI := mkFI Tryd.f15 0 [.ct (.sl 25), .ct (.i .i64)] [(false, [.ct (.i .i64)])] (fun _ => (.s .n (.s .n (.s .n (.s (.s .n (.b (.b (.s .n (.s (.b .n ⟨[.one (.sl 25), .one (.i .i64), .one .u, .one .u, .one .u, .one (.i .i64), .one .u, .one .u, .one .u, .one .u, .one .u, .one .u, .one .u, .one .u, .one .u, .one .u, .one .u, .one .u, .one .u, .one .u, .one .u, .one .u, .one .u, .one .u, .one .u, .one .u, .one .u], []⟩) .n)) ⟨[.one (.sl 25), .one (.i .i64), .one .u, .one .u, .one .u, .one (.i .i64), .one .u, .one .u, .one .u, .one .u, .one .u, .one .u, .one .u, .one .u, .one .u, .one .u, .one .u, .one .u, .one .u, .one .u, .one .u, .one .u, .one .u, .one .u, .one .u, .one .u, .one .u], []⟩) ⟨[.one .u, .one (.i .i64), .one .u, .one .u, .one .u, .one .u, .one .u, .one .u, .one .u, .one .u, .one .u, .one .u, .one .u, .one .u, .one .u, .one .u, .one .u, .one .u, .one .u, .one .u, .one .u, .one .u, .one .u, .one .u, .one .u, .one .u, .one .u], []⟩)) .n)))))
noncomputable def fi16 : FI := mkFI Tryd.f16 0 [.ct (.sl 9), .ct (.i .i64)] [(false, [.ct (.i .i64)])] (fun _ => (.s .n (.s .n (.s .n (.s (.s .n (.b (.b (.s .n (.s (.b .n ⟨[.one (.sl 9), .one (.i .i64), .one .u, .one .u, .one .u, .one (.i .i64), .one .u, .one .u, .one .u, .one .u, .one .u, .one .u, .one .u, .one .u, .one .u, .one .u, .one .u, .one .u, .one .u, .one .u, .one .u, .one .u, .one .u, .one .u, .one .u, .one .u, .one .u, .one .u], []⟩) .n)) ⟨[.one (.sl 9), .one (.i .i64), .one .u, .one .u, .one .u, .one (.i .i64), .one .u, .one .u, .one .u, .one .u, .one .u, .one .u, .one .u, .one .u, .one .u, .one .u, .one .u, .one .u, .one .u, .one .u, .one .u, .one .u, .one .u, .one .u, .one .u, .one .u, .one .u, .one .u], []⟩) ⟨[.one .u, .one (.i .i64), .one .u, .one .u, .one .u, .one .u, .one .u, .one .u, .one .u, .one .u, .one .u, .one .u, .one .u, .one .u, .one .u, .one .u, .one .u, .one .u, .one .u, .one .u, .one .u, .one .u, .one .u, .one .u, .one .u, .one .u, .one .u, .one .u], []⟩)) .n)))))
noncomputable def fi18 : FI := mkFI Tryd.f18 4 [.ct (.sl 25)] [(false, [.ct (.sl 30)])] (fun _ => (.s .n (.s (.r [0, 0, 0, 0] none) (.s (.s .n (.b (.b (.s .n (.s (.b .n ⟨[.one (.sl 25), .one .u, .one .u, .one (.own 30 2), .one (.i .i64), .one .u, .one .u, .one .u, .one .u, .one .u, .one .u, .one .u, .one .u, .one .u, .one .u, .one .u, .one .u, .one .u, .one .u, .one .u, .one .u, .one .u, .one .u], [.u, .u, .u, .u]⟩) .n)) ⟨[.one (.sl 25), .one .u, .one .u, .one (.own 30 1), .one (.i .i64), .one .u, .one .u, .one .u, .one .u, .one .u, .one .u, .one .u, .one .u, .one .u, .one .u, .one .u, .one .u, .one .u, .one .u, .one .u, .one .u, .one .u, .one .u], [.u, .u, .u, .u]⟩) ⟨[.one .u, .one .u, .one .u, .one (.own 30 3), .one .u, .one .u, .one .u, .one .u, .one .u, .one .u, .one .u, .one .u, .one .u, .one .u, .one .u, .one .u, .one .u, .one .u, .one .u, .one .u, .one .u, .one .u, .one .u], [.u, .u, .u, .u]⟩)) .n))))
noncomputable def fi19 : FI := mkFI Tryd.f19 4 [.ct (.sl 9)] [(false, [.ct (.sl 9)])] (fun _ => (.s .n (.s (.r [0, 0, 0, 0] none) (.s (.s .n (.b (.b (.s .n (.s (.b .n ⟨[.one (.sl 9), .one .u, .one .u, .one (.own 9 2), .one (.i .i64), .one .u, .one .u, .one .u, .one .u, .one .u, .one .u, .one .u, .one .u, .one .u, .one .u, .one .u, .one .u, .one .u, .one .u, .one .u, .one .u, .one .u], [.u, .u, .u, .u]⟩) .n)) ⟨[.one (.sl 9), .one .u, .one .u, .one (.own 9 1), .one (.i .i64), .one .u, .one .u, .one .u, .one .u, .one .u, .one .u, .one .u, .one .u, .one .u, .one .u, .one .u, .one .u, .one .u, .one .u, .one .u, .one .u, .one .u], [.u, .u, .u, .u]⟩) ⟨[.one .u, .one .u, .one .u, .one (.own 9 3), .one .u, .one .u, .one .u, .one .u, .one .u, .one .u, .one .u, .one .u, .one .u, .one .u, .one .u, .one .u, .one .u, .one .u, .one .u, .one .u, .one .u, .one .u], [.u, .u, .u, .u]⟩)) .n))))
noncomputable def fi17 : FI := mkFI Tryd.f17 1 [.ag [.i .i64, .s, .sl 30, .sl 9], .ct (.i .i64)] [(false, [.ct .b])] (fun _ => (.s (.r [0, 0] none) (.s (.r [] (some ⟨[.one .u, .one (.i .i64), .one (.ptr 0 0), .one .u, .one .u, .one .b, .one .u, .one .u, .one .u, .one .u, .one .u, .one .u, .one .u, .one .u, .one .u, .one .u, .one .u, .one .u, .one .u, .one .u, .one .u, .one .u, .one .u, .one .u, .one .u, .one .u, .one .u, .one .u, .one .u, .one .u, .one .u, .one .u, .one .u, .one .u, .one .u, .one .u, .one .u, .one .u, .one .u, .one .u, .one .u, .one .u, .one .u, .one .u, .one .u, .one .u, .one .u, .one .u, .one .u, .one .u, .one .u, .one .u, .one .u, .one .u, .one .u, .one .u, .one .u, .one .u, .one .u, .one .u, .one .u, .one .u, .one .u, .one .u, .one .u, .one .u, .one .u, .one .u, .one .u, .one .u, .one .u, .one .u, .one .u, .one .u, .one .u, .one .u, .one .u, .one .u, .one .u, .one .u, .one .u, .one .u, .one .u, .one .u, .one .u, .one .u, .one .u, .one .u, .one .u, .one .u, .one .u, .one .u, .one .u, .one .u, .one .u, .one .u, .one .u, .one .u, .one .u, .one .u, .one .u, .one .u, .one .u, .one .u, .one .u, .one .u, .one .u, .one .u, .one .u, .one .u, .one .u, .one .u, .one .u, .one .u], [.var 30 [.i .i64, .s, .sl 30, .sl 9]]⟩)) (.s (.s .n (.b (.s (.s .n (.c .n (.s .n (.c .n (.s .n (.c .n (.s .n (.c .n .n (some ⟨[.one .u, .one (.i .i64), .one (.ptr 0 0), .one .u, .one .u, .one .b, .one .u, .one .u, .one .u, .one .u, .one .u, .one .u, .one .u, .one .u, .one .u, .one .u, .one (.i .i64), .one .b, .one .u, .one .u, .one .u, .one .u, .one .u, .one .u, .one .u, .one .u, .one .u, .one .u, .one .u, .one .u, .one .u, .one .u, .one .u, .one .u, .one .u, .one .u, .one .u, .one .u, .one .u, .one .u, .one .u, .one .u, .one .u, .one .u, .one .u, .one .u, .one .u, .one .u, .one .u, .one .u, .one .u, .one .u, .one .u, .one .u, .one .u, .one .u, .one .u, .one .u, .one .u, .one .u, .one .u, .one .u, .one .u, .one .u, .one .u, .one .u, .one .u, .one .u, .one .u, .one .u, .one .u, .one .u, .one .u, .one .u, .one .u, .one .u, .one .u, .one .u, .one .u, .one .u, .one .u, .one .u, .one .u, .one .u, .one .u, .one .u, .one .u, .one .u, .one .u, .one .u, .one .u, .one .u, .one .u, .one .u, .one .u, .one .u, .one .u, .one .u, .one .u, .one .u, .one .u, .one .u, .one .u, .one .u, .one .u, .one .u, .one .u, .one .u, .one .u, .one .u, .one .u, .one .u, .one .u, .one .u], [.var 30 [.i .i64, .s, .sl 30, .sl 9]]⟩))) (some ⟨[.one .u, .one (.i .i64), .one (.ptr 0 0), .one .u, .one .u, .one .b, .one .u, .one .u, .one .u, .one .u, .one .u, .one .u, .one .u, .one .u, .one .u, .one .u, .one (.i .i64), .one .b, .one .u, .one .u, .one .u, .one .u, .one .u, .one .u, .one .u, .one .u, .one .u, .one .u, .one .u, .one .u, .one .u, .one .u, .one .u, .one .u, .one .u, .one .u, .one .u, .one .u, .one .u, .one .u, .one .u, .one .u, .one .u, .one .u, .one .u, .one .u, .one .u, .one .u, .one .u, .one .u, .one .u, .one .u, .one .u, .one .u, .one .u, .one .u, .one .u, .one .u, .one .u, .one .u, .one .u, .one .u, .one .u, .one .u, .one .u, .one .u, .one .u, .one .u, .one .u, .one .u, .one .u, .one .u, .one .u, .one .u, .one .u, .one .u, .one .u, .one .u, .one .u, .one .u, .one .u, .one .u, .one .u, .one .u, .one .u, .one .u, .one .u, .one .u, .one .u, .one .u, .one .u, .one .u, .one .u, .one .u, .one .u, .one .u, .one .u, .one .u, .one .u, .one .u, .one .u, .one .u, .one .u, .one .u, .one .u, .one .u, .one .u, .one .u, .one .u, .one .u, .one .u, .one .u, .one .u, .one .u], [.var 30 [.i .i64, .s, .sl 30, .sl 9]]⟩))) (some ⟨[.one .u, .one (.i .i64), .one (.ptr 0 0), .one .u, .one .u, .one .b, .one .u, .one .u, .one .u, .one .u, .one .u, .one .u, .one .u, .one .u, .one .u, .one .u, .one (.i .i64), .one .b, .one .u, .one .u, .one .u, .one .u, .one .u, .one .u, .one .u, .one .u, .one .u, .one .u, .one .u, .one .u, .one .u, .one .u, .one .u, .one .u, .one .u, .one .u, .one .u, .one .u, .one .u, .one .u, .one .u, .one .u, .one .u, .one .u, .one .u, .one .u, .one .u, .one .u, .one .u, .one .u, .one .u, .one .u, .one .u, .one .u, .one .u, .one .u, .one .u, .one .u, .one .u, .one .u, .one .u, .one .u, .one .u, .one .u, .one .u, .one .u, .one .u, .one .u, .one .u, .one .u, .one .u, .one .u, .one .u, .one .u, .one .u, .one .u, .one .u, .one .u, .one .u, .one .u, .one .u, .one .u, .one .u, .one .u, .one .u, .one .u, .one .u, .one .u, .one .u, .one .u, .one .u, .one .u, .one .u, .one .u, .one .u, .one .u, .one .u, .one .u, .one .u, .one .u, .one .u, .one .u, .one .u, .one .u, .one .u, .one .u, .one .u, .one .u, .one .u, .one .u, .one .u, .one .u, .one .u, .one .u], [.var 30 [.i .i64, .s, .sl 30, .sl 9]]⟩))) (some ⟨[.one .u, .one (.i .i64), .one (.ptr 0 0), .one .u, .one .u, .one .b, .one .u, .one .u, .one .u, .one .u, .one .u, .one .u, .one .u, .one .u, .one .u, .one .u, .one (.i .i64), .one .b, .one .u, .one .u, .one .u, .one .u, .one .u, .one .u, .one .u, .one .u, .one .u, .one .u, .one .u, .one .u, .one .u, .one .u, .one .u, .one .u, .one .u, .one .u, .one .u, .one .u, .one .u, .one .u, .one .u, .one .u, .one .u, .one .u, .one .u, .one .u, .one .u, .one .u, .one .u, .one .u, .one .u, .one .u, .one .u, .one .u, .one .u, .one .u, .one .u, .one .u, .one .u, .one .u, .one .u, .one .u, .one .u, .one .u, .one .u, .one .u, .one .u, .one .u, .one .u, .one .u, .one .u, .one .u, .one .u, .one .u, .one .u, .one .u, .one .u, .one .u, .one .u, .one .u, .one .u, .one .u, .one .u, .one .u, .one .u, .one .u, .one .u, .one .u, .one .u, .one .u, .one .u, .one .u, .one .u, .one .u, .one .u, .one .u, .one .u, .one .u, .one .u, .one .u, .one .u, .one .u, .one .u, .one .u, .one .u, .one .u, .one .u, .one .u, .one .u, .one .u, .one .u, .one .u, .one .u, .one .u], [.var 30 [.i .i64, .s, .sl 30, .sl 9]]⟩))) (.c .n (.s .n (.c (.s (.r [] (some ⟨[.one .u, .one (.i .i64), .one (.ptr 0 0), .one .u, .one .u, .one .b, .one .u, .one .u, .one .u, .one .u, .one .u, .one .u, .one .u, .one .u, .one .u, .one .u, .one .u, .one .u, .one .u, .one .u, .one .u, .one .u, .one .u, .one .u, .one .u, .one .u, .one .u, .one .u, .one .u, .one .u, .one .u, .one .u, .one .u, .one .u, .one .u, .one .u, .one .u, .one .b, .one .u, .one .u, .one .u, .one .u, .one .u, .one .u, .one .u, .one .u, .one .u, .one .u, .one .u, .one .u, .one .u, .one .u, .one .u, .one .u, .one .u, .one .u, .one .u, .one .u, .one .u, .one .u, .one .u, .one .u, .one .u, .one .u, .one .u, .one .u, .one .u, .one .u, .one .u, .one .u, .one .u, .one .u, .one .u, .one .u, .one .u, .one .u, .one .u, .one .u, .one .u, .one .u, .one .u, .one .u, .one .u, .one .u, .one .u, .one .u, .one .u, .one .u, .one .u, .one .u, .one .u, .one .u, .one .u, .one .u, .one .u, .one .u, .one .u, .one .u, .one .u, .one .u, .one .u, .one .u, .one .u, .one .u, .one .u, .one .u, .one .u, .one .u, .one .u, .one .u, .one .u, .one .u, .one .u, .one .u], [.var 30 [.i .i64, .s, .sl 30, .sl 9]]⟩)) .n) .n (some ⟨[.one .u, .one (.i .i64), .one (.ptr 0 0), .one .u, .one .u, .one .b, .one .u, .one .u, .one .u, .one .u, .one .u, .one .u, .one .u, .one .u, .one .u, .one .u, .one .u, .one .u, .one .u, .one .u, .one .u, .one .u, .one .u, .one .u, .one .u, .one .u, .one .u, .one .u, .one .u, .one .u, .one .u, .one .u, .one .u, .one .u, .one .u, .one .u, .one .u, .one .u, .one .u, .one .u, .one .u, .one .u, .one .u, .one .u, .one .u, .one .u, .one .u, .one .u, .one .u, .one .u, .one .u, .one .u, .one .u, .one .u, .one .u, .one .u, .one .u, .one .u, .one .u, .one .u, .one .u, .one .u, .one .u, .one .u, .one .u, .one .u, .one .u, .one .u, .one .u, .one .u, .one .u, .one .u, .one .u, .one .u, .one .u, .one .u, .one .u, .one .u, .one .u, .one .u, .one .u, .one .u, .one .u, .one .u, .one .u, .one .u, .one .u, .one .u, .one .u, .one .u, .one .u, .one .u, .one .u, .one .u, .one .u, .one .u, .one .u, .one .u, .one .u, .one .u, .one .u, .one .u, .one .u, .one .u, .one .u, .one .u, .one .u, .one .u, .one .u, .one .u, .one .u, .one .u, .one .u, .one .u], [.var 30 [.i .i64, .s, .sl 30, .sl 9]]⟩))) (some ⟨[.one .u, .one (.i .i64), .one (.ptr 0 0), .one .u, .one .u, .one .b, .one .u, .one .u, .one .u, .one .u, .one .u, .one .u, .one .u, .one .u, .one .u, .one .u, .one .u, .one .u, .one .u, .one .u, .one .u, .one .u, .one .u, .one .u, .one .u, .one .u, .one .u, .one .u, .one .u, .one .u, .one .u, .one .u, .one .u, .one .u, .one .u, .one .u, .one .u, .one .u, .one .u, .one .u, .one .u, .one .u, .one .u, .one .u, .one .u, .one .u, .one .u, .one .u, .one .u, .one .u, .one .u, .one .u, .one .u, .one .u, .one .u, .one .u, .one .u, .one .u, .one .u, .one .u, .one .u, .one .u, .one .u, .one .u, .one .u, .one .u, .one .u, .one .u, .one .u, .one .u, .one .u, .one .u, .one .u, .one .u, .one .u, .one .u, .one .u, .one .u, .one .u, .one .u, .one .u, .one .u, .one .u, .one .u, .one .u, .one .u, .one .u, .one .u, .one .u, .one .u, .one .u, .one .u, .one .u, .one .u, .one .u, .one .u, .one .u, .one .u, .one .u, .one .u, .one .u, .one .u, .one .u, .one .u, .one .u, .one .u, .one .u, .one .u, .one .u, .one .u, .one .u, .one .u, .one .u, .one .u], [.var 30 [.i .i64, .s, .sl 30, .sl 9]]⟩))) ⟨[.one .u, .one (.i .i64), .one (.ptr 0 0), .one .u, .one .u, .one .b, .one .u, .one .u, .one .u, .one .u, .one .u, .one .u, .one .u, .one .u, .one .u, .one .u, .one .u, .one .u, .one .u, .one .u, .one .u, .one .u, .one .u, .one .u, .one .u, .one .u, .one .u, .one .u, .one .u, .one .u, .one .u, .one .u, .one .u, .one .u, .one .u, .one .u, .one .u, .one .u, .one .u, .one .u, .one .u, .one .u, .one .u, .one .u, .one .u, .one .u, .one .u, .one .u, .one .u, .one .u, .one .u, .one .u, .one .u, .one .u, .one .u, .one .u, .one .u, .one .u, .one .u, .one .u, .one .u, .one .u, .one .u, .one .u, .one .u, .one .u, .one .u, .one .u, .one .u, .one .u, .one .u, .one .u, .one .u, .one .u, .one .u, .one .u, .one .u, .one .u, .one .u, .one .u, .one .u, .one .u, .one .u, .one .u, .one .u, .one .u, .one .u, .one .u, .one .u, .one .u, .one .u, .one .u, .one .u, .one .u, .one .u, .one .u, .one .u, .one .u, .one .u, .one .u, .one .u, .one .u, .one .u, .one .u, .one .u, .one .u, .one .u, .one .u, .one .u, .one .u, .one .u, .one .u, .one .u, .one .u], [.var 30 [.i .i64, .s, .sl 30, .sl 9]]⟩)) (.s (.s (.r [] (some ⟨[.one .u, .one (.i .i64), .one (.ptr 0 0), .one .u, .one .u, .one .u, .one .u, .one .u, .one .u, .one .u, .one .u, .one .u, .one .u, .one .u, .one .u, .one .u, .one .u, .one .u, .one .u, .one .u, .one .u, .one .u, .one .u, .one .u, .one .u, .one .u, .one .u, .one .u, .one .u, .one .u, .one .u, .one .u, .one .u, .one .u, .one .u, .one .u, .one .u, .one .u, .one .u, .one .u, .one .u, .one .u, .one .u, .one .u, .one .u, .one .u, .one .u, .one .u, .one .u, .one .u, .one .u, .one .u, .one .u, .one .u, .one .u, .one .u, .one .u, .one .u, .one .u, .one .u, .one .u, .one .u, .one .u, .one .u, .one .u, .one .u, .one .u, .one .u, .one .u, .one .u, .one .u, .one .u, .one .u, .one .u, .one .u, .one .u, .one .u, .one .u, .one .u, .one .u, .one .u, .one .u, .one .u, .one .b, .one .u, .one .u, .one .u, .one .u, .one .u, .one .u, .one .u, .one .u, .one .u, .one .u, .one .u, .one .u, .one .u, .one .u, .one .u, .one .u, .one .u, .one .u, .one .u, .one .u, .one .u, .one .u, .one .u, .one .u, .one .u, .one .u, .one .u, .one .u, .one .u, .one .u], [.var 30 [.i .i64, .s, .sl 30, .sl 9]]⟩)) .n) (.s (.s .n (.b (.b (.s .n (.s (.b (.s (.r [] (some ⟨[.one .u, .one (.i .i64), .one (.ptr 0 0), .one .u, .one .u, .one .u, .one (.i .i64), .one .u, .one .u, .one .u, .one .u, .one .u, .one .u, .one .u, .one .u, .one .u, .one .u, .one .u, .one .u, .one .u, .one .u, .one .u, .one .u, .one .u, .one .u, .one .u, .one .u, .one .u, .one .u, .one .u, .one .u, .one .u, .one .u, .one .u, .one .u, .one .u, .one .u, .one .u, .one .u, .one .u, .one .u, .one .u, .one .u, .one .u, .one .u, .one .u, .one .u, .one .u, .one .u, .one .u, .one .u, .one .u, .one .u, .one .u, .one .u, .one .u, .one .u, .one .u, .one .u, .one .u, .one .u, .one .u, .one .u, .one .u, .one .u, .one .u, .one .u, .one .u, .one .u, .one .u, .one .u, .one .u, .one .u, .one .u, .one .u, .one .u, .one .u, .one .u, .one .u, .one .u, .one .u, .one .u, .one .u, .one .u, .one .u, .one .u, .one .u, .one .u, .one .u, .one .u, .one .u, .one .u, .one .u, .one .u, .one .u, .one .u, .one .u, .one .u, .one .u, .one .u, .one .u, .one .u, .one .u, .one .u, .one .u, .one .u, .one .u, .one .u, .one .u, .one .u, .one .u, .one .u, .one .u, .one .b], [.var 30 [.i .i64, .s, .sl 30, .sl 9]]⟩)) .n) ⟨[.one .u, .one (.i .i64), .one (.ptr 0 0), .one .u, .one .u, .one .u, .one (.i .i64), .one .u, .one .u, .one .u, .one .u, .one .u, .one .u, .one .u, .one .u, .one .u, .one .u, .one .u, .one .u, .one .u, .one .u, .one .u, .one .u, .one .u, .one .u, .one .u, .one .u, .one .u, .one .u, .one .u, .one .u, .one .u, .one .u, .one .u, .one .u, .one .u, .one .u, .one .u, .one .u, .one .u, .one .u, .one .u, .one .u, .one .u, .one .u, .one .u, .one .u, .one .u, .one .u, .one .u, .one .u, .one .u, .one .u, .one .u, .one .u, .one .u, .one .u, .one .u, .one .u, .one .u, .one .u, .one .u, .one .u, .one .u, .one .u, .one .u, .one .u, .one .u, .one .u, .one .u, .one .u, .one .u, .one .u, .one .u, .one .u, .one .u, .one .u, .one .u, .one .u, .one .u, .one .u, .one .u, .one .u, .one .u, .one .u, .one .u, .one .u, .one .u, .one .u, .one .u, .one .u, .one .u, .one .u, .one .u, .one .u, .one .u, .one .u, .one .u, .one .u, .one .u, .one .u, .one .u, .one .u, .one .u, .one .u, .one .u, .one .u, .one .u, .one .u, .one .u, .one .u, .one .u, .one .u, .one .u], [.var 30 [.i .i64, .s, .sl 30, .sl 9]]⟩) .n)) ⟨[.one .u, .one (.i .i64), .one (.ptr 0 0), .one .u, .one .u, .one .u, .one (.i .i64), .one .u, .one .u, .one .u, .one .u, .one .u, .one .u, .one .u, .one .u, .one .u, .one .u, .one .u, .one .u, .one .u, .one .u, .one .u, .one .u, .one .u, .one .u, .one .u, .one .u, .one .u, .one .u, .one .u, .one .u, .one .u, .one .u, .one .u, .one .u, .one .u, .one .u, .one .u, .one .u, .one .u, .one .u, .one .u, .one .u, .one .u, .one .u, .one .u, .one .u, .one .u, .one .u, .one .u, .one .u, .one .u, .one .u, .one .u, .one .u, .one .u, .one .u, .one .u, .one .u, .one .u, .one .u, .one .u, .one .u, .one .u, .one .u, .one .u, .one .u, .one .u, .one .u, .one .u, .one .u, .one .u, .one .u, .one .u, .one .u, .one .u, .one .u, .one .u, .one .u, .one .u, .one .u, .one .u, .one .u, .one .u, .one .u, .one .u, .one .u, .one .u, .one .u, .one .u, .one .u, .one .u, .one .u, .one .u, .one .u, .one .u, .one .u, .one .u, .one .u, .one .u, .one .u, .one .u, .one .u, .one .u, .one .u, .one .u, .one .u, .one .u, .one .u, .one .u, .one .u, .one .u, .one .u, .one .u], [.var 30 [.i .i64, .s, .sl 30, .sl 9]]⟩) ⟨[.one .u, .one .u, .one .u, .one .u, .one .u, .one .u, .one .u, .one .u, .one .u, .one .u, .one .u, .one .u, .one .u, .one .u, .one .u, .one .u, .one .u, .one .u, .one .u, .one .u, .one .u, .one .u, .one .u, .one .u, .one .u, .one .u, .one .u, .one .u, .one .u, .one .u, .one .u, .one .u, .one .u, .one .u, .one .u, .one .u, .one .u, .one .u, .one .u, .one .u, .one .u, .one .u, .one .u, .one .u, .one .u, .one .u, .one .u, .one .u, .one .u, .one .u, .one .u, .one .u, .one .u, .one .u, .one .u, .one .u, .one .u, .one .u, .one .u, .one .u, .one .u, .one .u, .one .u, .one .u, .one .u, .one .u, .one .u, .one .u, .one .u, .one .u, .one .u, .one .u, .one .u, .one .u, .one .u, .one .u, .one .u, .one .u, .one .u, .one .u, .one .u, .one .u, .one .u, .one .u, .one .u, .one .u, .one .u, .one .u, .one .u, .one .u, .one .u, .one .u, .one .u, .one .u, .one .u, .one .u, .one .u, .one .u, .one .u, .one .u, .one .u, .one .u, .one .u, .one .u, .one .u, .one .u, .one .u, .one .u, .one .u, .one .u, .one .u, .one .u, .one .u, .one .u], [.u]⟩)) .n))))))
noncomputable def fi20 : FI := mkFI Tryd.f20 2 [.ag [.i .i64, .s, .sl 30, .sl 9], .ct (.i .i64)] [(false, [.ct .b])] (fun _ => (.s (.r [0, 1, 0] none) (.s (.r [] (some ⟨[.one .u, .one .u, .one (.ptr 0 0), .one (.ptr 1 0), .one .u, .one .b, .one .u, .one .u, .one .u, .one .u, .one .u, .one .u, .one .u, .one .u, .one .u, .one .u, .one .u, .one .u, .one .u, .one .u, .one .u, .one .u, .one .u, .one .u, .one .u, .one .u, .one .u, .one .u, .one .u, .one .u, .one .u, .one .u, .one .u, .one .u, .one .u, .one .u, .one .u, .one .u, .one .u, .one .u, .one .u, .one .u, .one .u, .one .u, .one .u, .one .u, .one .u, .one .u, .one .u, .one .u, .one .u, .one .u, .one .u, .one .u, .one .u, .one .u, .one .u, .one .u, .one .u, .one .u, .one .u, .one .u, .one .u, .one .u, .one .u, .one .u, .one .u, .one .u, .one .u, .one .u, .one .u, .one .u, .one .u, .one .u, .one .u, .one .u, .one .u, .one .u, .one .u, .one .u, .one .u, .one .u, .one .u, .one .u], [.var 30 [.i .i64, .s, .sl 30, .sl 9], .var 3 [.i .i64]]⟩)) (.s (.s .n (.b (.s (.s .n (.c .n (.s .n (.c .n .n (some ⟨[.one .u, .one .u, .one (.ptr 0 0), .one (.ptr 1 0), .one .u, .one .b, .one .u, .one .u, .one .u, .one .u, .one .u, .one .u, .one .u, .one .u, .one .u, .one .u, .one .u, .one (.i .i64), .one .b, .one .u, .one .u, .one .u, .one .u, .one .u, .one .u, .one .u, .one .u, .one .u, .one .u, .one .u, .one .u, .one .u, .one .u, .one .u, .one .u, .one .u, .one .u, .one .u, .one .u, .one .u, .one .u, .one .u, .one .u, .one .u, .one .u, .one .u, .one .u, .one .u, .one .u, .one .u, .one .u, .one .u, .one .u, .one .u, .one .u, .one .u, .one .u, .one .u, .one .u, .one .u, .one .u, .one .u, .one .u, .one .u, .one .u, .one .u, .one .u, .one .u, .one .u, .one .u, .one .u, .one .u, .one .u, .one .u, .one .u, .one .u, .one .u, .one .u, .one .u, .one .u, .one .u, .one .u, .one .u, .one .u], [.var 30 [.i .i64, .s, .sl 30, .sl 9], .var 3 [.i .i64]]⟩))) (some ⟨[.one .u, .one .u, .one (.ptr 0 0), .one (.ptr 1 0), .one .u, .one .b, .one .u, .one .u, .one .u, .one .u, .one .u, .one .u, .one .u, .one .u, .one .u, .one .u, .one .u, .one (.i .i64), .one .b, .one .u, .one .u, .one .u, .one .u, .one .u, .one .u, .one .u, .one .u, .one .u, .one .u, .one .u, .one .u, .one .u, .one .u, .one .u, .one .u, .one .u, .one .u, .one .u, .one .u, .one .u, .one .u, .one .u, .one .u, .one .u, .one .u, .one .u, .one .u, .one .u, .one .u, .one .u, .one .u, .one .u, .one .u, .one .u, .one .u, .one .u, .one .u, .one .u, .one .u, .one .u, .one .u, .one .u, .one .u, .one .u, .one .u, .one .u, .one .u, .one .u, .one .u, .one .u, .one .u, .one .u, .one .u, .one .u, .one .u, .one .u, .one .u, .one .u, .one .u, .one .u, .one .u, .one .u, .one .u, .one .u], [.var 30 [.i .i64, .s, .sl 30, .sl 9], .var 3 [.i .i64]]⟩))) (.c (.s (.r [] (some ⟨[.one .u, .one .u, .one .u, .one .u, .one .b, .one .u, .one .u, .one .u, .one .u, .one .u, .one .u, .one .u, .one .u, .one .u, .one .u, .one .u, .one .u, .one .u, .one .u, .one .u, .one .u, .one .u, .one .u, .one .u, .one .u, .one .u, .one .u, .one .u, .one .u, .one .u, .one .u, .one .u, .one .u, .one .u, .one .u, .one .u, .one .u, .one .u, .one .u, .one .u, .one .u, .one .u, .one .u, .one .u, .one .u, .one .u, .one .u, .one .u, .one .u, .one .u, .one .u, .one .u, .one .u, .one .u, .one .u, .one .u, .one .u, .one .u, .one .u, .one .u, .one .u, .one .u, .one .u, .one .u, .one .u, .one .u, .one .u, .one .u, .one .u, .one .u, .one .u, .one .u, .one .u, .one .u, .one .u, .one .u, .one .u, .one .u, .one .u, .one .u, .one .u, .one .u, .one .u, .one .u], [.u, .u]⟩)) .n) (.s .n (.c (.s (.r [] (some ⟨[.one .u, .one .u, .one .u, .one .u, .one .b, .one .u, .one .u, .one .u, .one .u, .one .u, .one .u, .one .u, .one .u, .one .u, .one .u, .one .u, .one .u, .one .u, .one .u, .one .u, .one .u, .one .u, .one .u, .one .u, .one .u, .one .u, .one .u, .one .u, .one .u, .one .u, .one .u, .one .u, .one .u, .one .u, .one .u, .one .u, .one .u, .one .u, .one .u, .one .u, .one .u, .one .u, .one .u, .one .u, .one .u, .one .u, .one .u, .one .u, .one .u, .one .u, .one .u, .one .u, .one .u, .one .u, .one .u, .one .u, .one .u, .one .u, .one .u, .one .u, .one .u, .one .u, .one .u, .one .u, .one .u, .one .u, .one .u, .one .u, .one .u, .one .u, .one .u, .one .u, .one .u, .one .u, .one .u, .one .u, .one .u, .one .u, .one .u, .one .u, .one .u, .one .u, .one .u, .one .u], [.u, .u]⟩)) .n) (.s .n (.c (.s (.r [] (some ⟨[.one .u, .one .u, .one .u, .one .u, .one .b, .one .u, .one .u, .one .u, .one .u, .one .u, .one .u, .one .u, .one .u, .one .u, .one .u, .one .u, .one .u, .one .u, .one .u, .one .u, .one .u, .one .u, .one .u, .one .u, .one .u, .one .u, .one .u, .one .u, .one .u, .one .u, .one .u, .one .u, .one .u, .one .u, .one .u, .one .u, .one .u, .one .u, .one .u, .one .u, .one .u, .one .u, .one .u, .one .u, .one .u, .one .u, .one .u, .one .u, .one .u, .one .u, .one .u, .one .u, .one .u, .one .u, .one .u, .one .u, .one .u, .one .u, .one .u, .one .u, .one .u, .one .u, .one .u, .one .u, .one .u, .one .u, .one .u, .one .u, .one .u, .one .u, .one .u, .one .u, .one .u, .one .u, .one .u, .one .u, .one .u, .one .u, .one .u, .one .u, .one .u, .one .u, .one .u, .one .u], [.u, .u]⟩)) .n) (.s .n (.c .n (.s .n (.c (.s (.r [] (some ⟨[.one .u, .one .u, .one (.ptr 0 0), .one (.ptr 1 0), .one .u, .one .u, .one .u, .one .u, .one .u, .one .u, .one .u, .one .u, .one .u, .one .u, .one .u, .one .u, .one .u, .one .u, .one .u, .one .u, .one .u, .one .u, .one .u, .one .u, .one .u, .one .u, .one .u, .one .u, .one .u, .one .u, .one .u, .one .u, .one .u, .one .u, .one .u, .one .u, .one .u, .one .u, .one .u, .one .u, .one .u, .one .u, .one .u, .one .u, .one .u, .one .u, .one .u, .one .u, .one .u, .one .u, .one .u, .one .u, .one .u, .one .u, .one .u, .one .u, .one .u, .one .u, .one .u, .one .u, .one .u, .one .u, .one .u, .one .u, .one .u, .one .u, .one .u, .one .u, .one .u, .one .b, .one .u, .one .u, .one .u, .one .u, .one .u, .one .u, .one .u, .one .u, .one .u, .one .u, .one .u, .one .u, .one .u, .one .u], [.var 30 [.i .i64, .s, .sl 30, .sl 9], .var 3 [.i .i64]]⟩)) .n) .n none)) (some ⟨[.one .u, .one .u, .one (.ptr 0 0), .one (.ptr 1 0), .one .u, .one .u, .one .u, .one .u, .one .u, .one .u, .one .u, .one .u, .one .u, .one .u, .one .u, .one .u, .one .u, .one .u, .one .u, .one .u, .one .u, .one .u, .one .u, .one .u, .one .u, .one .u, .one .u, .one .u, .one .u, .one .u, .one .u, .one .u, .one .u, .one .u, .one .u, .one .u, .one .u, .one .u, .one .u, .one .u, .one .u, .one .u, .one .u, .one .u, .one .u, .one .u, .one .u, .one .u, .one .u, .one .u, .one .u, .one .u, .one .u, .one .u, .one .u, .one .u, .one .u, .one .u, .one .u, .one .u, .one .u, .one .u, .one .u, .one .u, .one .u, .one .u, .one .u, .one .u, .one .u, .one .u, .one .u, .one .u, .one .u, .one .u, .one .u, .one .u, .one .u, .one .u, .one .u, .one .u, .one .u, .one .u, .one .u, .one .u], [.var 30 [.i .i64, .s, .sl 30, .sl 9], .var 3 [.i .i64]]⟩))) none)) none)) none)) ⟨[.one .u, .one .u, .one (.ptr 0 0), .one (.ptr 1 0), .one .u, .one .u, .one .u, .one .u, .one .u, .one .u, .one .u, .one .u, .one .u, .one .u, .one .u, .one .u, .one .u, .one .u, .one .u, .one .u, .one .u, .one .u, .one .u, .one .u, .one .u, .one .u, .one .u, .one .u, .one .u, .one .u, .one .u, .one .u, .one .u, .one .u, .one .u, .one .u, .one .u, .one .u, .one .u, .one .u, .one .u, .one .u, .one .u, .one .u, .one .u, .one .u, .one .u, .one .u, .one .u, .one .u, .one .u, .one .u, .one .u, .one .u, .one .u, .one .u, .one .u, .one .u, .one .u, .one .u, .one .u, .one .u, .one .u, .one .u, .one .u, .one .u, .one .u, .one .u, .one .u, .one .u, .one .u, .one .u, .one .u, .one .u, .one .u, .one .u, .one .u, .one .u, .one .u, .one .u, .one .u, .one .u, .one .u, .one .u], [.var 30 [.i .i64, .s, .sl 30, .sl 9], .var 3 [.i .i64]]⟩)) (.s (.r [] (some ⟨[.one .u, .one .u, .one .u, .one .u, .one .b, .one .u, .one .u, .one .u, .one .u, .one .u, .one .u, .one .u, .one .u, .one .u, .one .u, .one .u, .one .u, .one .u, .one .u, .one .u, .one .u, .one .u, .one .u, .one .u, .one .u, .one .u, .one .u, .one .u, .one .u, .one .u, .one .u, .one .u, .one .u, .one .u, .one .u, .one .u, .one .u, .one .u, .one .u, .one .u, .one .u, .one .u, .one .u, .one .u, .one .u, .one .u, .one .u, .one .u, .one .u, .one .u, .one .u, .one .u, .one .u, .one .u, .one .u, .one .u, .one .u, .one .u, .one .u, .one .u, .one .u, .one .u, .one .u, .one .u, .one .u, .one .u, .one .u, .one .u, .one .u, .one .u, .one .u, .one .u, .one .u, .one .u, .one .u, .one .u, .one .u, .one .u, .one .u, .one .u, .one .u, .one .u, .one .u, .one .u], [.u, .u]⟩)) .n)))))
noncomputable def fi21 : FI := mkFI Tryd.f21 0 [.ct (.sl 30), .ct (.sl 30)] [(false, [.ct .b])] (fun _ => (.s .n (.s .n (.s (.s .n (.b (.b (.s .n (.s (.b .n ⟨[.one (.sl 30), .one (.sl 30), .one .u, .one .u, .one .u, .one (.i .i64), .one .u, .one .u, .one .u, .one .u, .one .u, .one .u, .one .u, .one .u, .one .u, .one .u, .one .u, .one .u, .one .u, .one .u, .one .u, .one .u, .one .u, .one .u, .one .u, .one .u, .one .u], []⟩) .n)) ⟨[.one (.sl 30), .one (.sl 30), .one .u, .one .u, .one .u, .one (.i .i64), .one .u, .one .u, .one .u, .one .u, .one .u, .one .u, .one .u, .one .u, .one .u, .one .u, .one .u, .one .u, .one .u, .one .u, .one .u, .one .u, .one .u, .one .u, .one .u, .one .u, .one .u], []⟩) ⟨[.one .u, .one .u, .one .u, .one .u, .one .u, .one .u, .one .u, .one .u, .one .u, .one .u, .one .u, .one .u, .one .u, .one .u, .one .u, .one .u, .one .u, .one .u, .one .u, .one .u, .one .u, .one .u, .one .u, .one .u, .one .u, .one .u, .one .u], []⟩)) .n))))
noncomputable def fi22 : FI := mkFI Tryd.f22 0 [.ct (.sl 9), .ct (.sl 9)] [(false, [.ct .b])] (fun _ => (.s .n (.s .n (.s (.s .n (.b (.b (.s .n (.s (.b .n ⟨[.one (.sl 9), .one (.sl 9), .one .u, .one .u, .one .u, .one (.i .i64), .one .u, .one .u, .one .u, .one .u, .one .u, .one .u, .one .u, .one .u, .one .u, .one .u, .one .u, .one .u, .one .u, .one .u, .one .u, .one .u, .one .u, .one .u, .one .u, .one .u], []⟩) .n)) ⟨[.one (.sl 9), .one (.sl 9), .one .u, .one .u, .one .u, .one (.i .i64), .one .u, .one .u, .one .u, .one .u, .one .u, .one .u, .one .u, .one .u, .one .u, .one .u, .one .u, .one .u, .one .u, .one .u, .one .u, .one .u, .one .u, .one .u, .one .u, .one .u], []⟩) ⟨[.one .u, .one .u, .one .u, .one .u, .one .u, .one .u, .one .u, .one .u, .one .u, .one .u, .one .u, .one .u, .one .u, .one .u, .one .u, .one .u, .one .u, .one .u, .one .u, .one .u, .one .u, .one .u, .one .u, .one .u, .one .u, .one .u], []⟩)) .n))))
noncomputable def fi23 : FI := mkFI Tryd.f23 1 [.ag [.i .i64, .s, .i .i64], .ct (.i .i64)] [(false, [.ct (.i .i64)])] (fun _ => (.s (.r [0, 0] none) .n))
noncomputable def fi27 : FI := mkFI Tryd.f27 3 [.ag [.i .i64, .s, .i .i64]] [(true, [.ct (.i .i64), .ct .s, .ct (.i .i64)])] (fun _ => (.s (.r [0, 1] none) (.s (.r [2] none) .n)))
noncomputable def fi24 : FI := mkFI Tryd.f24 1 [.ag [.i .i64, .s, .i .i64]] [(false, [.ct .b])] (fun _ => (.s (.r [0, 0] none) (.s (.s .n (.b .n ⟨[.one .u, .one .u, .one .u, .one .u, .one .u, .one .u, .one .u, .one .u, .one .u, .one .u, .one .u, .one .u, .one .u, .one .u, .one .u, .one .u, .one .u, .one .u, .one .u, .one .u, .one .u, .one .u, .one .u, .one .u, .one .u, .one .u, .one .u, .one .u, .one .u, .one .u, .one .u], [.u]⟩)) .n)))
noncomputable def fi25 : FI := mkFI Tryd.f25 2 [.ag [.i .i64, .s, .i .i64], .ag [.i .i64, .s, .i .i64]] [(false, [.ct .b])] (fun _ => (.s (.r [0, 1, 0] none) (.s (.s (.r [] (some ⟨[.one .u, .one .u, .one (.ptr 0 0), .one (.ptr 1 0), .one .u, .one .u, .one .u, .one .u, .one .u, .one .u, .one .u, .one .u, .one .u, .one .u, .one .u, .one .u, .one .u, .one .u, .one .u, .one .u, .one .b, .one .u, .one .u, .one .u, .one .u, .one .u, .one .u, .one .u, .one .u, .one .u, .one .u, .one .u, .one .u, .one .u, .one .u, .one .u, .one .u, .one .u, .one .u], [.var 53 [.i .i64, .s, .i .i64], .var 53 [.i .i64, .s, .i .i64]]⟩)) .n) (.s (.r [] (some ⟨[.one .u, .one .u, .one .u, .one .u, .one .b, .one .u, .one .u, .one .u, .one .u, .one .u, .one .u, .one .u, .one .u, .one .u, .one .u, .one .u, .one .u, .one .u, .one .u, .one .u, .one .u, .one .u, .one .u, .one .u, .one .u, .one .u, .one .u, .one .u, .one .u, .one .u, .one .u, .one .u, .one .u, .one .u, .one .u, .one .u, .one .u, .one .u, .one .u], [.u, .u]⟩)) .n))))
noncomputable def fi26 : FI := mkFI Tryd.f26 1 [.ag [.i .i64, .s, .i .i64]] [(false, [.ct .s])] (fun _ => (.s (.r [0, 0] none) .n))
noncomputable def fi28 : FI := mkFI Tryd.f28 1 [.ag [.i .i64, .s, .i .i64]] [(false, [.ct .b])] (fun _ => (.s (.r [0, 0] none) (.s (.s .n (.b .n ⟨[.one .u, .one .u, .one .u, .one .u, .one .u, .one .u, .one .u, .one .u, .one .u, .one .u, .one .u, .one .u, .one .u, .one .u, .one .u, .one .u, .one .u, .one .u, .one .u, .one .u, .one .u, .one .u, .one .u, .one .u, .one .u, .one .u, .one .u, .one .u, .one .u, .one .u, .one .u], [.u]⟩)) .n)))
noncomputable def fi29 : FI := mkFI Tryd.f29 2 [.ag [.i .i64, .s, .i .i64], .ag [.i .i64, .s, .i .i64]] [(false, [.ct .b])] (fun _ => (.s (.r [0, 1, 0] none) (.s .n (.s (.b (.s (.r [] (some ⟨[.one .u, .one .u, .one (.ptr 0 0), .one (.ptr 1 0), .one .u, .one .u, .one .b, .one .u, .one .u, .one .u, .one .u, .one .u, .one .u, .one .u, .one .u, .one .u, .one .u, .one .u, .one .u, .one .u, .one .u, .one .u, .one .u, .one .u, .one .u, .one .u, .one .u, .one .u, .one .u, .one .u, .one .u, .one .u, .one .u, .one .u, .one .u, .one .u], [.var 53 [.i .i64, .s, .i .i64], .var 53 [.i .i64, .s, .i .i64]]⟩)) (.c .n (.s (.r [] (some ⟨[.one .u, .one .u, .one (.ptr 0 0), .one (.ptr 1 0), .one .u, .one .u, .one .u, .one .u, .one .u, .one .u, .one .u, .one .u, .one .u, .one .u, .one .u, .one .b, .one .u, .one .u, .one .u, .one .u, .one .u, .one .u, .one .u, .one .u, .one .u, .one .u, .one .u, .one .u, .one .u, .one .u, .one .u, .one .u, .one .u, .one .u, .one .u, .one .u], [.var 53 [.i .i64, .s, .i .i64], .var 53 [.i .i64, .s, .i .i64]]⟩)) .n) none)) ⟨[.one .u, .one .u, .one (.ptr 0 0), .one (.ptr 1 0), .one .u, .one .u, .one .u, .one .u, .one .u, .one .u, .one .u, .one .u, .one .u, .one .u, .one .u, .one .u, .one .u, .one .u, .one .u, .one .u, .one .u, .one .u, .one .u, .one .u, .one .u, .one .u, .one .u, .one .u, .one .u, .one .u, .one .u, .one .u, .one .u, .one .u, .one .u, .one .u], [.var 53 [.i .i64, .s, .i .i64], .var 53 [.i .i64, .s, .i .i64]]⟩) (.s (.r [] (some ⟨[.one .u, .one .u, .one .u, .one .u, .one .b, .one .u, .one .u, .one .u, .one .u, .one .u, .one .u, .one .u, .one .u, .one .u, .one .u, .one .u, .one .u, .one .u, .one .u, .one .u, .one .u, .one .u, .one .u, .one .u, .one .u, .one .u, .one .u, .one .u, .one .u, .one .u, .one .u, .one .u, .one .u, .one .u, .one .u, .one .u], [.u, .u]⟩)) .n)))))
noncomputable def fi30 : FI := mkFI Tryd.f30 1 [.ag [.i .i64, .s, .i .i64]] [(false, [.ct .s])] (fun _ => (.s (.r [0, 0] none) .n))
noncomputable def fi31 : FI := mkFI Tryd.f31 2 [.ag [.i .i64, .s, .i .i64], .ag [.i .i64, .s, .i .i64]] [(false, [.ct .b])] (fun _ => (.s (.r [0, 1, 0] none) .n))
noncomputable def fi32 : FI := mkFI Tryd.f32 0 [.ct .s] [(false, [.ct .b])] (fun _ => (.s .n (.s (.r [] (some ⟨[.one .u, .one .u, .one .b, .one .u, .one .u, .one .u, .one .u, .one .u, .one .u, .one .u, .one .u, .one .u, .one .u, .one .u, .one .u, .one .u, .one .u, .one .u], []⟩)) .n)))
noncomputable def fi33 : FI := mkFI Tryd.f33 0 [.ct .s] [(false, [.ct .b])] (fun _ => (.s .n (.s .n (.s (.s (.r [] (some ⟨[.one .s, .one .u, .one .u, .one (.i .i64), .one .u, .one .u, .one .u, .one .u, .one .u, .one .u, .one .u, .one .u, .one .u, .one .u, .one .u, .one .u, .one .u, .one .u, .one .u, .one .u, .one .b, .one .u, .one .u, .one .u, .one .u, .one .u, .one .u, .one .u, .one .u, .one .u, .one .u, .one .u, .one .u, .one .u, .one .u, .one .u, .one .u, .one .u, .one .u, .one .u, .one .u, .one .u, .one .u, .one .u, .one .u, .one .u, .one .u, .one .u, .one .u, .one .u, .one .u, .one .u, .one .u, .one .u, .one .u, .one .u, .one .u, .one .u, .one .u, .one .u, .one .u, .one .u, .one .u, .one .u, .one .u, .one .u, .one .u, .one .u, .one .u, .one .u, .one .u, .one .u, .one .u, .one .u, .one .u, .one .u, .one .u, .one .u, .one .u, .one .u, .one .u], []⟩)) .n) (.s (.s .n (.c .n .n (some ⟨[.one .s, .one .u, .one .u, .one (.i .i64), .one .u, .one .u, .one .u, .one .u, .one .u, .one .u, .one .u, .one .u, .one .u, .one .u, .one .u, .one .u, .one .u, .one .u, .one .u, .one .u, .one .u, .one .u, .one .u, .one .u, .one .u, .one .u, .one .u, .one .u, .one .u, .one .u, .one .u, .one .u, .one .u, .one .u, .one .u, .one .u, .one .u, .one .u, .one .u, .one .u, .one .u, .one .u, .one .u, .one .u, .one .u, .one .u, .one .u, .one .u, .one .u, .one .u, .one .u, .one .u, .one .u, .one .u, .one .u, .one .u, .one .u, .one .u, .one .u, .one .u, .one .u, .one .u, .one .u, .one .u, .one .u, .one .u, .one .u, .one .u, .one .u, .one .u, .one .u, .one .u, .one .u, .one .u, .one .u, .one .u, .one .u, .one .u, .one .u, .one .u, .one .u], []⟩))) (.s (.s (.r [] (some ⟨[.one .s, .one .u, .one .u, .one (.i .i64), .one .u, .one .u, .one .u, .one .u, .one .u, .one .u, .one .u, .one .u, .one .u, .one .u, .one .u, .one .u, .one .u, .one .u, .one .u, .one .u, .one .u, .one .u, .one .u, .one .u, .one .u, .one .u, .one .u, .one .u, .one .u, .one .u, .one .u, .one .u, .one .u, .one .u, .one .u, .one .u, .one .u, .one .u, .one .u, .one .u, .one .u, .one .u, .one .u, .one .u, .one .u, .one .u, .one .u, .one .u, .one .u, .one .b, .one .u, .one .u, .one .u, .one .u, .one .u, .one .u, .one .u, .one .u, .one .u, .one .u, .one .u, .one .u, .one .u, .one .u, .one .u, .one .u, .one .u, .one .u, .one .u, .one .u, .one .u, .one .u, .one .u, .one .u, .one .u, .one .u, .one .u, .one .u, .one .u, .one .u, .one .u], []⟩)) (.c (.s .n (.s (.s (.r [] (some ⟨[.one .s, .one .u, .one .u, .one (.i .i64), .one .u, .one .u, .one .u, .one .u, .one .u, .one .u, .one .u, .one .u, .one .u, .one .u, .one .u, .one .u, .one .u, .one .u, .one .u, .one .u, .one .u, .one .u, .one .u, .one .u, .one .u, .one .u, .one .u, .one .u, .one .u, .one .u, .one .u, .one .u, .one .u, .one .u, .one .u, .one .u, .one .u, .one .u, .one .u, .one .u, .one .u, .one .u, .one .u, .one .u, .one .u, .one .u, .one .u, .one .u, .one .u, .one .u, .one .u, .one .u, .one .u, .one .u, .one .u, .one .u, .one .u, .one .u, .one .u, .one .u, .one .u, .one .u, .one .u, .one .u, .one .u, .one .u, .one .u, .one .b, .one .u, .one .u, .one .u, .one .u, .one .u, .one .u, .one .u, .one .u, .one .u, .one .u, .one .u, .one .u, .one .u], []⟩)) (.c .n .n (some ⟨[.one .s, .one .u, .one .u, .one (.i .i64), .one .u, .one .u, .one .u, .one .u, .one .u, .one .u, .one .u, .one .u, .one .u, .one .u, .one .u, .one .u, .one .u, .one .u, .one .u, .one .u, .one .u, .one .u, .one .u, .one .u, .one .u, .one .u, .one .u, .one .u, .one .u, .one .u, .one .u, .one .u, .one .u, .one .u, .one .u, .one .u, .one .u, .one .u, .one .u, .one .u, .one .u, .one .u, .one .u, .one .u, .one .u, .one .u, .one .u, .one .u, .one .u, .one .u, .one .u, .one .u, .one .u, .one .u, .one .u, .one .u, .one .u, .one .u, .one .u, .one .u, .one .u, .one .u, .one .u, .one .u, .one .u, .one .u, .one .u, .one .u, .one .u, .one .u, .one .u, .one .u, .one .u, .one .u, .one .u, .one .u, .one .u, .one .u, .one .u, .one .u, .one .u], []⟩))) .n)) .n (some ⟨[.one .s, .one .u, .one .u, .one (.i .i64), .one .u, .one .u, .one .u, .one .u, .one .u, .one .u, .one .u, .one .u, .one .u, .one .u, .one .u, .one .u, .one .u, .one .u, .one .u, .one .u, .one .u, .one .u, .one .u, .one .u, .one .u, .one .u, .one .u, .one .u, .one .u, .one .u, .one .u, .one .u, .one .u, .one .u, .one .u, .one .u, .one .u, .one .u, .one .u, .one .u, .one .u, .one .u, .one .u, .one .u, .one .u, .one .u, .one .u, .one .u, .one .u, .one .u, .one .u, .one .u, .one .u, .one .u, .one .u, .one .u, .one .u, .one .u, .one .u, .one .u, .one .u, .one .u, .one .u, .one .u, .one .u, .one .u, .one .u, .one .u, .one .u, .one .u, .one .u, .one .u, .one .u, .one .u, .one .u, .one .u, .one .u, .one .u, .one .u, .one .u, .one .u], []⟩))) .n))))))
noncomputable def fi34 : FI := mkFI Tryd.f34 0 [.ct .s] [(false, [.ct .s])] (fun _ => (.s .n (.s (.s (.r [] (some ⟨[.one .s, .one .u, .one .u, .one .u, .one .u, .one .u, .one .u, .one .u, .one .u, .one .u, .one .u, .one .u, .one .u, .one .b, .one .u, .one .u, .one .u, .one .u, .one .u, .one .u, .one .u, .one .u, .one .u, .one .u, .one .u, .one .u, .one .u, .one .u, .one .u, .one .u, .one .u, .one .u, .one .u, .one .u, .one .u, .one .u, .one .u, .one .u, .one .u, .one .u, .one .u, .one .u, .one .u, .one .u, .one .u, .one .u, .one .u, .one .u, .one .u, .one .u, .one .u, .one .u, .one .u, .one .u, .one .u, .one .u, .one .u, .one .u, .one .u, .one .u, .one .u, .one .u, .one .u, .one .u, .one .u, .one .u, .one .u, .one .u, .one .u, .one .u, .one .u, .one .u, .one .u, .one .u, .one .u, .one .u, .one .u, .one .u, .one .u, .one .u, .one .u, .one .u, .one .u, .one .u, .one .u], []⟩)) .n) (.s .n (.s (.s .n (.b (.b (.s .n (.s (.b (.s .n (.b (.s (.r [] (some ⟨[.one .s, .one .u, .one .u, .one .s, .one (.i .i64), .one (.i .u8), .one .u, .one .u, .one .u, .one .u, .one .u, .one .u, .one .u, .one .u, .one .u, .one .u, .one .u, .one .u, .one .u, .one .u, .one .u, .one .u, .one .u, .one .u, .one .u, .one .u, .one .u, .one .u, .one .u, .one .u, .one .b, .one .u, .one .u, .one .u, .one .u, .one .u, .one .u, .one .u, .one .u, .one .u, .one .u, .one .u, .one .u, .one .u, .one .u, .one .u, .one .u, .one .u, .one .u, .one .u, .one .u, .one .u, .one .u, .one .u, .one .u, .one .u, .one .u, .one .u, .one .u, .one .u, .one .u, .one .u, .one .u, .one .u, .one .u, .one .u, .one .u, .one .u, .one .u, .one .u, .one .u, .one .u, .one .u, .one .u, .one .u, .one .u, .one .u, .one .u, .one .u, .one .u, .one .u, .one .u, .one .u, .one .u, .one .u], []⟩)) (.c .n (.s .n (.c .n (.s .n (.c .n (.s .n (.c .n (.s .n (.c .n (.s .n (.c .n (.s (.r [] (some ⟨[.one .s, .one .u, .one .u, .one .s, .one (.i .i64), .one (.i .u8), .one .u, .one .u, .one .u, .one .u, .one .u, .one .u, .one .u, .one .u, .one .u, .one .u, .one .u, .one .u, .one .u, .one .u, .one .u, .one .u, .one .u, .one .u, .one .u, .one .u, .one .u, .one .u, .one .u, .one .u, .one .u, .one .u, .one .u, .one .u, .one .u, .one .u, .one .u, .one .u, .one .u, .one .u, .one .u, .one .u, .one .u, .one .u, .one .u, .one .u, .one .u, .one .u, .one .u, .one .u, .one .u, .one .u, .one .u, .one .u, .one .u, .one .u, .one .u, .one .u, .one .u, .one .u, .one .u, .one .u, .one .u, .one .u, .one .u, .one .u, .one .u, .one .u, .one .u, .one .u, .one .b, .one .u, .one .u, .one .u, .one .u, .one .u, .one .u, .one .u, .one .u, .one .u, .one .u, .one .u, .one .u, .one .u, .one .u], []⟩)) (.c .n .n (some ⟨[.one .s, .one .u, .one .u, .one .s, .one (.i .i64), .one .u, .one .u, .one .u, .one .u, .one .u, .one .u, .one .u, .one .u, .one .u, .one .u, .one .u, .one .u, .one .u, .one .u, .one .u, .one .u, .one .u, .one .u, .one .u, .one .u, .one .u, .one .u, .one .u, .one .u, .one .u, .one .u, .one .u, .one .u, .one .u, .one .u, .one .u, .one .u, .one .u, .one .u, .one .u, .one .u, .one .u, .one .u, .one .u, .one .u, .one .u, .one .u, .one .u, .one .u, .one .u, .one .u, .one .u, .one .u, .one .u, .one .u, .one .u, .one .u, .one .u, .one .u, .one .u, .one .u, .one .u, .one .u, .one .u, .one .u, .one .u, .one .u, .one .u, .one .u, .one .u, .one .u, .one .u, .one .u, .one .u, .one .u, .one .u, .one .u, .one .u, .one .u, .one .u, .one .u, .one .u, .one .u, .one .u, .one .u], []⟩))) (some ⟨[.one .s, .one .u, .one .u, .one .s, .one (.i .i64), .one .u, .one .u, .one .u, .one .u, .one .u, .one .u, .one .u, .one .u, .one .u, .one .u, .one .u, .one .u, .one .u, .one .u, .one .u, .one .u, .one .u, .one .u, .one .u, .one .u, .one .u, .one .u, .one .u, .one .u, .one .u, .one .u, .one .u, .one .u, .one .u, .one .u, .one .u, .one .u, .one .u, .one .u, .one .u, .one .u, .one .u, .one .u, .one .u, .one .u, .one .u, .one .u, .one .u, .one .u, .one .u, .one .u, .one .u, .one .u, .one .u, .one .u, .one .u, .one .u, .one .u, .one .u, .one .u, .one .u, .one .u, .one .u, .one .u, .one .u, .one .u, .one .u, .one .u, .one .u, .one .u, .one .u, .one .u, .one .u, .one .u, .one .u, .one .u, .one .u, .one .u, .one .u, .one .u, .one .u, .one .u, .one .u, .one .u, .one .u], []⟩))) (some ⟨[.one .s, .one .u, .one .u, .one .s, .one (.i .i64), .one .u, .one .u, .one .u, .one .u, .one .u, .one .u, .one .u, .one .u, .one .u, .one .u, .one .u, .one .u, .one .u, .one .u, .one .u, .one .u, .one .u, .one .u, .one .u, .one .u, .one .u, .one .u, .one .u, .one .u, .one .u, .one .u, .one .u, .one .u, .one .u, .one .u, .one .u, .one .u, .one .u, .one .u, .one .u, .one .u, .one .u, .one .u, .one .u, .one .u, .one .u, .one .u, .one .u, .one .u, .one .u, .one .u, .one .u, .one .u, .one .u, .one .u, .one .u, .one .u, .one .u, .one .u, .one .u, .one .u, .one .u, .one .u, .one .u, .one .u, .one .u, .one .u, .one .u, .one .u, .one .u, .one .u, .one .u, .one .u, .one .u, .one .u, .one .u, .one .u, .one .u, .one .u, .one .u, .one .u, .one .u, .one .u, .one .u, .one .u], []⟩))) (some ⟨[.one .s, .one .u, .one .u, .one .s, .one (.i .i64), .one .u, .one .u, .one .u, .one .u, .one .u, .one .u, .one .u, .one .u, .one .u, .one .u, .one .u, .one .u, .one .u, .one .u, .one .u, .one .u, .one .u, .one .u, .one .u, .one .u, .one .u, .one .u, .one .u, .one .u, .one .u, .one .u, .one .u, .one .u, .one .u, .one .u, .one .u, .one .u, .one .u, .one .u, .one .u, .one .u, .one .u, .one .u, .one .u, .one .u, .one .u, .one .u, .one .u, .one .u, .one .u, .one .u, .one .u, .one .u, .one .u, .one .u, .one .u, .one .u, .one .u, .one .u, .one .u, .one .u, .one .u, .one .u, .one .u, .one .u, .one .u, .one .u, .one .u, .one .u, .one .u, .one .u, .one .u, .one .u, .one .u, .one .u, .one .u, .one .u, .one .u, .one .u, .one .u, .one .u, .one .u, .one .u, .one .u, .one .u], []⟩))) (some ⟨[.one .s, .one .u, .one .u, .one .s, .one (.i .i64), .one .u, .one .u, .one .u, .one .u, .one .u, .one .u, .one .u, .one .u, .one .u, .one .u, .one .u, .one .u, .one .u, .one .u, .one .u, .one .u, .one .u, .one .u, .one .u, .one .u, .one .u, .one .u, .one .u, .one .u, .one .u, .one .u, .one .u, .one .u, .one .u, .one .u, .one .u, .one .u, .one .u, .one .u, .one .u, .one .u, .one .u, .one .u, .one .u, .one .u, .one .u, .one .u, .one .u, .one .u, .one .u, .one .u, .one .u, .one .u, .one .u, .one .u, .one .u, .one .u, .one .u, .one .u, .one .u, .one .u, .one .u, .one .u, .one .u, .one .u, .one .u, .one .u, .one .u, .one .u, .one .u, .one .u, .one .u, .one .u, .one .u, .one .u, .one .u, .one .u, .one .u, .one .u, .one .u, .one .u, .one .u, .one .u, .one .u, .one .u], []⟩))) (some ⟨[.one .s, .one .u, .one .u, .one .s, .one (.i .i64), .one .u, .one .u, .one .u, .one .u, .one .u, .one .u, .one .u, .one .u, .one .u, .one .u, .one .u, .one .u, .one .u, .one .u, .one .u, .one .u, .one .u, .one .u, .one .u, .one .u, .one .u, .one .u, .one .u, .one .u, .one .u, .one .u, .one .u, .one .u, .one .u, .one .u, .one .u, .one .u, .one .u, .one .u, .one .u, .one .u, .one .u, .one .u, .one .u, .one .u, .one .u, .one .u, .one .u, .one .u, .one .u, .one .u, .one .u, .one .u, .one .u, .one .u, .one .u, .one .u, .one .u, .one .u, .one .u, .one .u, .one .u, .one .u, .one .u, .one .u, .one .u, .one .u, .one .u, .one .u, .one .u, .one .u, .one .u, .one .u, .one .u, .one .u, .one .u, .one .u, .one .u, .one .u, .one .u, .one .u, .one .u, .one .u, .one .u, .one .u], []⟩))) (some ⟨[.one .s, .one .u, .one .u, .one .s, .one (.i .i64), .one .u, .one .u, .one .u, .one .u, .one .u, .one .u, .one .u, .one .u, .one .u, .one .u, .one .u, .one .u, .one .u, .one .u, .one .u, .one .u, .one .u, .one .u, .one .u, .one .u, .one .u, .one .u, .one .u, .one .u, .one .u, .one .u, .one .u, .one .u, .one .u, .one .u, .one .u, .one .u, .one .u, .one .u, .one .u, .one .u, .one .u, .one .u, .one .u, .one .u, .one .u, .one .u, .one .u, .one .u, .one .u, .one .u, .one .u, .one .u, .one .u, .one .u, .one .u, .one .u, .one .u, .one .u, .one .u, .one .u, .one .u, .one .u, .one .u, .one .u, .one .u, .one .u, .one .u, .one .u, .one .u, .one .u, .one .u, .one .u, .one .u, .one .u, .one .u, .one .u, .one .u, .one .u, .one .u, .one .u, .one .u, .one .u, .one .u, .one .u], []⟩))) ⟨[.one .s, .one .u, .one .u, .one .s, .one (.i .i64), .one .u, .one .u, .one .u, .one .u, .one .u, .one .u, .one .u, .one .u, .one .u, .one .u, .one .u, .one .u, .one .u, .one .u, .one .u, .one .u, .one .u, .one .u, .one .u, .one .u, .one .u, .one .u, .one .u, .one .u, .one .u, .one .u, .one .u, .one .u, .one .u, .one .u, .one .u, .one .u, .one .u, .one .u, .one .u, .one .u, .one .u, .one .u, .one .u, .one .u, .one .u, .one .u, .one .u, .one .u, .one .u, .one .u, .one .u, .one .u, .one .u, .one .u, .one .u, .one .u, .one .u, .one .u, .one .u, .one .u, .one .u, .one .u, .one .u, .one .u, .one .u, .one .u, .one .u, .one .u, .one .u, .one .u, .one .u, .one .u, .one .u, .one .u, .one .u, .one .u, .one .u, .one .u, .one .u, .one .u, .one .u, .one .u, .one .u, .one .u], []⟩)) ⟨[.one .s, .one .u, .one .u, .one .s, .one (.i .i64), .one .u, .one .u, .one .u, .one .u, .one .u, .one .u, .one .u, .one .u, .one .u, .one .u, .one .u, .one .u, .one .u, .one .u, .one .u, .one .u, .one .u, .one .u, .one .u, .one .u, .one .u, .one .u, .one .u, .one .u, .one .u, .one .u, .one .u, .one .u, .one .u, .one .u, .one .u, .one .u, .one .u, .one .u, .one .u, .one .u, .one .u, .one .u, .one .u, .one .u, .one .u, .one .u, .one .u, .one .u, .one .u, .one .u, .one .u, .one .u, .one .u, .one .u, .one .u, .one .u, .one .u, .one .u, .one .u, .one .u, .one .u, .one .u, .one .u, .one .u, .one .u, .one .u, .one .u, .one .u, .one .u, .one .u, .one .u, .one .u, .one .u, .one .u, .one .u, .one .u, .one .u, .one .u, .one .u, .one .u, .one .u, .one .u, .one .u, .one .u], []⟩) .n)) ⟨[.one .s, .one .u, .one .u, .one .s, .one (.i .i64), .one .u, .one .u, .one .u, .one .u, .one .u, .one .u, .one .u, .one .u, .one .u, .one .u, .one .u, .one .u, .one .u, .one .u, .one .u, .one .u, .one .u, .one .u, .one .u, .one .u, .one .u, .one .u, .one .u, .one .u, .one .u, .one .u, .one .u, .one .u, .one .u, .one .u, .one .u, .one .u, .one .u, .one .u, .one .u, .one .u, .one .u, .one .u, .one .u, .one .u, .one .u, .one .u, .one .u, .one .u, .one .u, .one .u, .one .u, .one .u, .one .u, .one .u, .one .u, .one .u, .one .u, .one .u, .one .u, .one .u, .one .u, .one .u, .one .u, .one .u, .one .u, .one .u, .one .u, .one .u, .one .u, .one .u, .one .u, .one .u, .one .u, .one .u, .one .u, .one .u, .one .u, .one .u, .one .u, .one .u, .one .u, .one .u, .one .u, .one .u], []⟩) ⟨[.one .u, .one .u, .one .u, .one .s, .one .u, .one .u, .one .u, .one .u, .one .u, .one .u, .one .u, .one .u, .one .u, .one .u, .one .u, .one .u, .one .u, .one .u, .one .u, .one .u, .one .u, .one .u, .one .u, .one .u, .one .u, .one .u, .one .u, .one .u, .one .u, .one .u, .one .u, .one .u, .one .u, .one .u, .one .u, .one .u, .one .u, .one .u, .one .u, .one .u, .one .u, .one .u, .one .u, .one .u, .one .u, .one .u, .one .u, .one .u, .one .u, .one .u, .one .u, .one .u, .one .u, .one .u, .one .u, .one .u, .one .u, .one .u, .one .u, .one .u, .one .u, .one .u, .one .u, .one .u, .one .u, .one .u, .one .u, .one .u, .one .u, .one .u, .one .u, .one .u, .one .u, .one .u, .one .u, .one .u, .one .u, .one .u, .one .u, .one .u, .one .u, .one .u, .one .u, .one .u, .one .u], []⟩)) .n)))))
noncomputable def fi35 : FI := mkFI Tryd.f35 0 [.ct .s] [(false, [.ct .b])] (fun _ => (.s .n (.s .n (.s (.r [] (some ⟨[.one .u, .one .u, .one .b, .one .u, .one .u, .one .u, .one .u, .one .u, .one .u, .one .u, .one .u, .one .u, .one .u, .one .u, .one .u, .one .u, .one .u, .one .u, .one .u, .one .u, .one .u, .one .u], []⟩)) .n))))
noncomputable def fi36 : FI := mkFI Tryd.f36 0 [.ct .s] [(false, [.ct .b])] (fun _ => (.s .n (.s .n (.s .n (.s .n (.s (.s .n (.c (.s .n (.s (.s (.r [] (some ⟨[.one .u, .one .u, .one .u, .one .s, .one .s, .one (.i .i64), .one .u, .one .u, .one .u, .one .u, .one .u, .one .u, .one .u, .one .u, .one .u, .one .u, .one .u, .one .u, .one .u, .one .u, .one .u, .one .u, .one .u, .one .u, .one .u, .one .u, .one .u, .one .u, .one .u, .one .u, .one .u, .one .u, .one .u, .one .u, .one .u, .one .b, .one .u, .one .u, .one .u, .one .u, .one .u, .one .u, .one .u, .one .u, .one .u, .one .u, .one .u, .one .u, .one .u, .one .u, .one .u, .one .u, .one .u, .one .u, .one .u, .one .u, .one .u, .one .u, .one .u, .one .u, .one .u, .one .u, .one .u, .one .u], []⟩)) (.c .n .n (some ⟨[.one .u, .one .u, .one .u, .one .s, .one .s, .one (.i .i64), .one .u, .one .u, .one .u, .one .u, .one .u, .one .u, .one .u, .one .u, .one .u, .one .u, .one .u, .one .u, .one .u, .one .u, .one .u, .one .u, .one .u, .one .u, .one .u, .one .u, .one .u, .one .u, .one .u, .one .u, .one .u, .one .u, .one .u, .one .u, .one .u, .one .u, .one .u, .one .u, .one .u, .one .u, .one .u, .one .u, .one .u, .one .u, .one .u, .one .u, .one .u, .one .u, .one .u, .one .u, .one .u, .one .u, .one .u, .one .u, .one .u, .one .u, .one .u, .one .u, .one .u, .one .u, .one .u, .one .u, .one .u, .one .u], []⟩))) .n)) .n (some ⟨[.one .u, .one .u, .one .u, .one .s, .one .u, .one (.i .i64), .one .u, .one .u, .one .u, .one .u, .one .u, .one .u, .one .u, .one .u, .one .u, .one .u, .one .u, .one .u, .one .u, .one .u, .one .u, .one .u, .one .u, .one .u, .one .u, .one .u, .one .u, .one .u, .one .u, .one .u, .one .u, .one .u, .one .u, .one .u, .one .u, .one .u, .one .u, .one .u, .one .u, .one .u, .one .u, .one .u, .one .u, .one .u, .one .u, .one .u, .one .u, .one .u, .one .u, .one .u, .one .u, .one .u, .one .u, .one .u, .one .u, .one .u, .one .u, .one .u, .one .u, .one .u, .one .u, .one .u, .one .u, .one .u], []⟩))) (.s .n (.s (.r [] (some ⟨[.one .u, .one .u, .one .b, .one .u, .one .u, .one .u, .one .u, .one .u, .one .u, .one .u, .one .u, .one .u, .one .u, .one .u, .one .u, .one .u, .one .u, .one .u, .one .u, .one .u, .one .u, .one .u, .one .u, .one .u, .one .u, .one .u, .one .u, .one .u, .one .u, .one .u, .one .u, .one .u, .one .u, .one .u, .one .u, .one .u, .one .u, .one .u, .one .u, .one .u, .one .u, .one .u, .one .u, .one .u, .one .u, .one .u, .one .u, .one .u, .one .u, .one .u, .one .u, .one .u, .one .u, .one .u, .one .u, .one .u, .one .u, .one .u, .one .u, .one .u, .one .u, .one .u, .one .u, .one .u], []⟩)) .n))))))))
noncomputable def fi37 : FI := mkFI Tryd.f37 16 [.ct .s] [(false, [.ct .s])] (fun _ => (.s .n (.s (.s (.r [] (some ⟨[.one .s, .one .u, .one .u, .one .u, .one .u, .one .u, .one .u, .one .u, .one .u, .one .u, .one .u, .one .u, .one .u, .one .u, .one .b, .one .u, .one .u, .one .u, .one .u, .one .u, .one .u, .one .u, .one .u, .one .u, .one .u, .one .u, .one .u, .one .u, .one .u, .one .u, .one .u, .one .u, .one .u, .one .u, .one .u, .one .u, .one .u, .one .u, .one .u, .one .u, .one .u, .one .u, .one .u, .one .u, .one .u, .one .u, .one .u, .one .u, .one .u, .one .u, .one .u, .one .u, .one .u, .one .u, .one .u, .one .u, .one .u, .one .u, .one .u], [.u, .u, .u, .u, .u, .u, .u, .u, .u, .u, .u, .u, .u, .u, .u, .u]⟩)) .n) (.s (.r [0, 0] none) (.s (.s .n (.b (.b (.s .n (.s .n (.s (.b (.s .n (.s .n (.s .n (.b (.s .n (.c (.r [0, 0, 0, 2, 3, 0] none) (.s (.r [] (some ⟨[.one .s, .one .u, .one .u, .one (.own 5 4), .one .u, .one (.i .u8), .one .u, .one .u, .one .u, .one .u, .one .u, .one .u, .one .u, .one .u, .one .u, .one .u, .one .u, .one (.i .i64), .one (.i .i64), .one .u, .one .u, .one .u, .one .u, .one .u, .one .u, .one .u, .one .u, .one .u, .one .u, .one .u, .one .u, .one .u, .one .u, .one .u, .one .u, .one .u, .one .u, .one .u, .one .b, .one .u, .one .u, .one .u, .one .u, .one .u, .one .u, .one .u, .one .u, .one .u, .one .u, .one .u, .one .u, .one .u, .one .u, .one .u, .one .u, .one .u, .one .u, .one .u, .one .u], [.u, .u, .u, .u, .u, .u, .u, .u, .u, .u, .u, .u, .u, .u, .u, .u]⟩)) (.c (.r [0, 0, 0, 0, 0, 0, 0, 5, 6, 0] none) (.r [0, 0, 7, 8, 0] none) (some ⟨[.one .s, .one .u, .one .u, .one (.own 5 9), .one .u, .one .u, .one .u, .one .u, .one .u, .one .u, .one .u, .one .u, .one .u, .one .u, .one .u, .one .u, .one .u, .one (.i .i64), .one (.i .i64), .one .u, .one .u, .one .u, .one .u, .one .u, .one .u, .one .u, .one .u, .one .u, .one .u, .one .u, .one .u, .one .u, .one .u, .one .u, .one .u, .one .u, .one .u, .one .u, .one .u, .one .u, .one .u, .one .u, .one .u, .one .u, .one .u, .one .u, .one .u, .one .u, .one .u, .one .u, .one .u, .one .u, .one .u, .one .u, .one .u, .one .u, .one .u, .one .u, .one .u], [.u, .u, .u, .u, .u, .u, .u, .u, .u, .u, .u, .u, .u, .u, .u, .u]⟩))) (some ⟨[.one .s, .one .u, .one .u, .one (.own 5 10), .one .u, .one .u, .one .u, .one .u, .one .u, .one .u, .one .u, .one .u, .one .u, .one .u, .one .u, .one .u, .one .u, .one (.i .i64), .one (.i .i64), .one .u, .one .u, .one .u, .one .u, .one .u, .one .u, .one .u, .one .u, .one .u, .one .u, .one .u, .one .u, .one .u, .one .u, .one .u, .one .u, .one .u, .one .u, .one .u, .one .u, .one .u, .one .u, .one .u, .one .u, .one .u, .one .u, .one .u, .one .u, .one .u, .one .u, .one .u, .one .u, .one .u, .one .u, .one .u, .one .u, .one .u, .one .u, .one .u, .one .u], [.u, .u, .u, .u, .u, .u, .u, .u, .u, .u, .u, .u, .u, .u, .u, .u]⟩))) ⟨[.one .s, .one .u, .one .u, .one (.own 5 11), .one .u, .one .u, .one .u, .one .u, .one .u, .one .u, .one .u, .one .u, .one .u, .one .u, .one .u, .one .u, .one .u, .one (.i .i64), .one (.i .i64), .one .u, .one .u, .one .u, .one .u, .one .u, .one .u, .one .u, .one .u, .one .u, .one .u, .one .u, .one .u, .one .u, .one .u, .one .u, .one .u, .one .u, .one .u, .one .u, .one .u, .one .u, .one .u, .one .u, .one .u, .one .u, .one .u, .one .u, .one .u, .one .u, .one .u, .one .u, .one .u, .one .u, .one .u, .one .u, .one .u, .one .u, .one .u, .one .u, .one .u], [.u, .u, .u, .u, .u, .u, .u, .u, .u, .u, .u, .u, .u, .u, .u, .u]⟩)))) ⟨[.one .s, .one .u, .one .u, .one (.own 5 12), .one .u, .one .u, .one .u, .one .u, .one .u, .one .u, .one .u, .one .u, .one .u, .one .u, .one .u, .one .u, .one .u, .one (.i .i64), .one (.i .i64), .one .u, .one .u, .one .u, .one .u, .one .u, .one .u, .one .u, .one .u, .one .u, .one .u, .one .u, .one .u, .one .u, .one .u, .one .u, .one .u, .one .u, .one .u, .one .u, .one .u, .one .u, .one .u, .one .u, .one .u, .one .u, .one .u, .one .u, .one .u, .one .u, .one .u, .one .u, .one .u, .one .u, .one .u, .one .u, .one .u, .one .u, .one .u, .one .u, .one .u], [.u, .u, .u, .u, .u, .u, .u, .u, .u, .u, .u, .u, .u, .u, .u, .u]⟩) .n))) ⟨[.one .s, .one .u, .one .u, .one (.own 5 1), .one .u, .one .u, .one .u, .one .u, .one .u, .one .u, .one .u, .one .u, .one .u, .one .u, .one .u, .one .u, .one .u, .one (.i .i64), .one (.i .i64), .one .u, .one .u, .one .u, .one .u, .one .u, .one .u, .one .u, .one .u, .one .u, .one .u, .one .u, .one .u, .one .u, .one .u, .one .u, .one .u, .one .u, .one .u, .one .u, .one .u, .one .u, .one .u, .one .u, .one .u, .one .u, .one .u, .one .u, .one .u, .one .u, .one .u, .one .u, .one .u, .one .u, .one .u, .one .u, .one .u, .one .u, .one .u, .one .u, .one .u], [.u, .u, .u, .u, .u, .u, .u, .u, .u, .u, .u, .u, .u, .u, .u, .u]⟩) ⟨[.one .u, .one .u, .one .u, .one (.own 5 13), .one .u, .one .u, .one .u, .one .u, .one .u, .one .u, .one .u, .one .u, .one .u, .one .u, .one .u, .one .u, .one .u, .one .u, .one .u, .one .u, .one .u, .one .u, .one .u, .one .u, .one .u, .one .u, .one .u, .one .u, .one .u, .one .u, .one .u, .one .u, .one .u, .one .u, .one .u, .one .u, .one .u, .one .u, .one .u, .one .u, .one .u, .one .u, .one .u, .one .u, .one .u, .one .u, .one .u, .one .u, .one .u, .one .u, .one .u, .one .u, .one .u, .one .u, .one .u, .one .u, .one .u, .one .u, .one .u], [.u, .u, .u, .u, .u, .u, .u, .u, .u, .u, .u, .u, .u, .u, .u, .u]⟩)) (.s (.r [0, 14, 15, 0, 0] none) .n))))))
noncomputable def fi38 : FI := mkFI Tryd.f38 0 [.ct (.sl 9), .fn] [(false, [.ct .b])] (fun _ => .n)
noncomputable def fi40 : FI := mkFI Tryd.f40 1 [.ct (.sl 30), .fn] [(false, [.ct .b])] (fun _ => .n)
noncomputable def fi42 : FI := mkFI Tryd.f42 0 [.ct .s] [(false, [.ct .b])] (fun _ => (.s .n (.s (.s .n (.b (.s (.s .n (.c .n (.s .n (.c .n (.s .n (.c .n (.s .n (.c .n (.s .n (.c .n (.s .n (.c .n (.s .n (.c .n (.s .n (.c .n (.s .n (.c .n (.s .n (.c .n (.s .n (.c .n (.s .n (.c .n (.s .n (.c .n .n (some ⟨[.one .u, .one .u, .one .u, .one .u, .one .b, .one .u, .one .u, .one .u, .one .u, .one .u, .one .u, .one .u, .one .u, .one .u, .one .u, .one .u, .one .u, .one .u, .one .u], []⟩))) (some ⟨[.one .u, .one .u, .one .u, .one .u, .one .b, .one .u, .one .u, .one .u, .one .u, .one .u, .one .u, .one .u, .one .u, .one .u, .one .u, .one .u, .one .u, .one .u, .one .u], []⟩))) (some ⟨[.one .u, .one .u, .one .u, .one .u, .one .b, .one .u, .one .u, .one .u, .one .u, .one .u, .one .u, .one .u, .one .u, .one .u, .one .u, .one .u, .one .u, .one .u, .one .u], []⟩))) (some ⟨[.one .u, .one .u, .one .u, .one .u, .one .b, .one .u, .one .u, .one .u, .one .u, .one .u, .one .u, .one .u, .one .u, .one .u, .one .u, .one .u, .one .u, .one .u, .one .u], []⟩))) (some ⟨[.one .u, .one .u, .one .u, .one .u, .one .b, .one .u, .one .u, .one .u, .one .u, .one .u, .one .u, .one .u, .one .u, .one .u, .one .u, .one .u, .one .u, .one .u, .one .u], []⟩))) (some ⟨[.one .u, .one .u, .one .u, .one .u, .one .b, .one .u, .one .u, .one .u, .one .u, .one .u, .one .u, .one .u, .one .u, .one .u, .one .u, .one .u, .one .u, .one .u, .one .u], []⟩))) (some ⟨[.one .u, .one .u, .one .u, .one .u, .one .b, .one .u, .one .u, .one .u, .one .u, .one .u, .one .u, .one .u, .one .u, .one .u, .one .u, .one .u, .one .u, .one .u, .one .u], []⟩))) (some ⟨[.one .u, .one .u, .one .u, .one .u, .one .b, .one .u, .one .u, .one .u, .one .u, .one .u, .one .u, .one .u, .one .u, .one .u, .one .u, .one .u, .one .u, .one .u, .one .u], []⟩))) (some ⟨[.one .u, .one .u, .one .u, .one .u, .one .b, .one .u, .one .u, .one .u, .one .u, .one .u, .one .u, .one .u, .one .u, .one .u, .one .u, .one .u, .one .u, .one .u, .one .u], []⟩))) (some ⟨[.one .u, .one .u, .one .u, .one .u, .one .b, .one .u, .one .u, .one .u, .one .u, .one .u, .one .u, .one .u, .one .u, .one .u, .one .u, .one .u, .one .u, .one .u, .one .u], []⟩))) (some ⟨[.one .u, .one .u, .one .u, .one .u, .one .b, .one .u, .one .u, .one .u, .one .u, .one .u, .one .u, .one .u, .one .u, .one .u, .one .u, .one .u, .one .u, .one .u, .one .u], []⟩))) (some ⟨[.one .u, .one .u, .one .u, .one .u, .one .b, .one .u, .one .u, .one .u, .one .u, .one .u, .one .u, .one .u, .one .u, .one .u, .one .u, .one .u, .one .u, .one .u, .one .u], []⟩))) (some ⟨[.one .u, .one .u, .one .u, .one .u, .one .b, .one .u, .one .u, .one .u, .one .u, .one .u, .one .u, .one .u, .one .u, .one .u, .one .u, .one .u, .one .u, .one .u, .one .u], []⟩))) .n) ⟨[.one .u, .one .u, .one .u, .one .u, .one .u, .one .u, .one .u, .one .u, .one .u, .one .u, .one .u, .one .u, .one .u, .one .u, .one .u, .one .u, .one .u, .one .u, .one .u], []⟩)) .n)))
noncomputable def fi43 : FI := mkFI Tryd.f43 0 [.ct .s] [(false, [.ct .b])] (fun _ => (.s .n (.s (.s (.r [] (some ⟨[.one .s, .one .u, .one .u, .one .u, .one .u, .one .u, .one .u, .one .u, .one .u, .one .u, .one .u, .one .u, .one .u, .one .u, .one .u, .one .u, .one .b, .one .u, .one .u, .one .u, .one .u, .one .u, .one .u, .one .u, .one .u, .one .u, .one .u, .one .u, .one .u, .one .u, .one .u, .one .u, .one .u, .one .u, .one .u], []⟩)) .n) (.s (.s .n (.b (.b (.s .n (.s (.b (.s (.r [] (some ⟨[.one .s, .one .u, .one .u, .one (.i .i64), .one .u, .one .u, .one .u, .one .u, .one .u, .one .u, .one .u, .one .u, .one .u, .one .u, .one .u, .one .u, .one .u, .one .u, .one .u, .one .u, .one .u, .one .u, .one .u, .one .u, .one .u, .one .u, .one .u, .one .u, .one .u, .one .u, .one .u, .one .u, .one .u, .one .u, .one .b], []⟩)) .n) ⟨[.one .s, .one .u, .one .u, .one (.i .i64), .one .u, .one .u, .one .u, .one .u, .one .u, .one .u, .one .u, .one .u, .one .u, .one .u, .one .u, .one .u, .one .u, .one .u, .one .u, .one .u, .one .u, .one .u, .one .u, .one .u, .one .u, .one .u, .one .u, .one .u, .one .u, .one .u, .one .u, .one .u, .one .u, .one .u, .one .u], []⟩) .n)) ⟨[.one .s, .one .u, .one .u, .one (.i .i64), .one .u, .one .u, .one .u, .one .u, .one .u, .one .u, .one .u, .one .u, .one .u, .one .u, .one .u, .one .u, .one .u, .one .u, .one .u, .one .u, .one .u, .one .u, .one .u, .one .u, .one .u, .one .u, .one .u, .one .u, .one .u, .one .u, .one .u, .one .u, .one .u, .one .u, .one .u], []⟩) ⟨[.one .u, .one .u, .one .u, .one .u, .one .u, .one .u, .one .u, .one .u, .one .u, .one .u, .one .u, .one .u, .one .u, .one .u, .one .u, .one .u, .one .u, .one .u, .one .u, .one .u, .one .u, .one .u, .one .u, .one .u, .one .u, .one .u, .one .u, .one .u, .one .u, .one .u, .one .u, .one .u, .one .u, .one .u, .one .u], []⟩)) .n))))
noncomputable def fi44 : FI := mkFI Tryd.f44 1 [.ag [.i .i64, .s, .i .i64]] [(false, [.ct .b])] (fun _ => (.s (.r [0, 0] none) .n))
noncomputable def fi45 : FI := mkFI Tryd.f45 0 [.ct .s] [(false, [.ct .b])] (fun _ => (.s .n (.s (.r [] (some ⟨[.one .u, .one .u, .one .b, .one .u, .one .u, .one .u, .one .u, .one .u, .one .u, .one .u, .one .u, .one .u, .one .u, .one .u], []⟩)) .n)))
noncomputable def fi46 : FI := mkFI Tryd.f46 0 [.ct .s] [(false, [.ct .b])] (fun _ => (.s .n (.s (.s (.r [] (some ⟨[.one .s, .one .u, .one .u, .one .u, .one .u, .one .u, .one .u, .one .u, .one .u, .one .u, .one .u, .one .u, .one .b, .one .u, .one .u, .one .u, .one .u, .one .u, .one .u, .one .u, .one .u, .one .u, .one .u, .one .u], []⟩)) .n) (.s (.s .n (.b (.b (.s .n (.s .n (.s (.b .n ⟨[.one .s, .one .u, .one .u, .one .u, .one .u, .one .u, .one .u, .one .u, .one .u, .one .u, .one .u, .one .u, .one .u, .one .u, .one (.i .i64), .one (.i .i64), .one .u, .one .u, .one .u, .one .u, .one .u, .one .u, .one .u, .one .u], []⟩) .n))) ⟨[.one .s, .one .u, .one .u, .one .u, .one .u, .one .u, .one .u, .one .u, .one .u, .one .u, .one .u, .one .u, .one .u, .one .u, .one (.i .i64), .one (.i .i64), .one .u, .one .u, .one .u, .one .u, .one .u, .one .u, .one .u, .one .u], []⟩) ⟨[.one .u, .one .u, .one .u, .one .u, .one .u, .one .u, .one .u, .one .u, .one .u, .one .u, .one .u, .one .u, .one .u, .one .u, .one .u, .one .u, .one .u, .one .u, .one .u, .one .u, .one .u, .one .u, .one .u, .one .u], []⟩)) .n))))
noncomputable def fi47 : FI := mkFI Tryd.f47 1 [.ag [.i .i64, .s, .i .i64]] [(false, [.ct .b])] (fun _ => (.s (.r [0, 0] none) (.s (.r [] (some ⟨[.one .u, .one .u, .one .b, .one .u, .one .u, .one .u, .one .u, .one .u, .one .u, .one .u], [.u]⟩)) .n)))
noncomputable def fi48 : FI := mkFI Tryd.f48 1 [.ag [.i .i64, .s, .i .i64]] [(false, [.ct .b])] (fun _ => (.s (.r [0, 0] none) (.s (.r [] (some ⟨[.one .u, .one .u, .one .b, .one .u, .one .u, .one .u, .one .u, .one .u, .one .u, .one .u, .one .u], [.u]⟩)) .n)))
noncomputable def fi49 : FI := mkFI Tryd.f49 0 [.ct .s] [(false, [.ct (.i .i64)])] (fun _ => (.s .n (.s .n (.s (.s (.r [] (some ⟨[.one .s, .one .u, .one .u, .one (.i .i64), .one .u, .one .u, .one .u, .one .u, .one .u, .one .u, .one .u, .one .u, .one .b, .one .u, .one .u, .one .u, .one .u, .one .u, .one .u, .one .u, .one .u, .one .u, .one .u, .one .u, .one .u, .one .u, .one .u, .one .u, .one .u, .one .u, .one .u, .one .u], []⟩)) (.c .n .n (some ⟨[.one .s, .one .u, .one .u, .one (.i .i64), .one .u, .one .u, .one .u, .one .u, .one .u, .one .u, .one .u, .one .u, .one .u, .one .u, .one .u, .one .u, .one .u, .one .u, .one .u, .one .u, .one .u, .one .u, .one .u, .one .u, .one .u, .one .u, .one .u, .one .u, .one .u, .one .u, .one .u, .one .u], []⟩))) (.s .n (.s (.s (.r [] (some ⟨[.one .u, .one .u, .one .u, .one .u, .one (.i .i64), .one .u, .one .u, .one .u, .one .u, .one .u, .one .u, .one .u, .one .u, .one .u, .one .u, .one .u, .one .u, .one .u, .one .u, .one .u, .one .u, .one .u, .one .u, .one .u, .one .u, .one .u, .one .u, .one .u, .one .u, .one .u, .one .b, .one .u], []⟩)) .n) .n))))))
noncomputable def fi50 : FI := mkFI Tryd.f50 0 [.ct .s, .ct (.i .i64)] [(false, [.ct (.i .i64)])] (fun _ => (.s .n (.s (.b (.b (.s (.s (.r [] (some ⟨[.one .s, .one (.i .i64), .one .u, .one .u, .one .u, .one .u, .one .u, .one .u, .one .u, .one .u, .one .u, .one .u, .one .u, .one .u, .one .b, .one .u, .one .u, .one .u], []⟩)) .n) (.b .n ⟨[.one .s, .one (.i .i64), .one .u, .one .u, .one .u, .one .u, .one .u, .one .u, .one .u, .one .u, .one .u, .one .u, .one .u, .one .u, .one .u, .one .u, .one .u, .one .u], []⟩)) ⟨[.one .s, .one (.i .i64), .one .u, .one .u, .one .u, .one .u, .one .u, .one .u, .one .u, .one .u, .one .u, .one .u, .one .u, .one .u, .one .u, .one .u, .one .u, .one .u], []⟩) ⟨[.one .u, .one (.i .i64), .one .u, .one .u, .one .u, .one .u, .one .u, .one .u, .one .u, .one .u, .one .u, .one .u, .one .u, .one .u, .one .u, .one .u, .one .u, .one .u], []⟩) .n)))
noncomputable def fi51 : FI := mkFI Tryd.f51 0 [.ct .s] [(false, [.ct .b])] (fun _ => (.s .n (.s (.s .n (.b (.b (.s .n (.b .n ⟨[.one .s, .one .u, .one .u, .one (.i .i64), .one .u, .one .u, .one .u, .one .u, .one .u, .one .u, .one .u, .one .u, .one .u, .one .u, .one .u, .one .u, .one .u, .one .u, .one .u, .one .u, .one .u], []⟩)) ⟨[.one .s, .one .u, .one .u, .one (.i .i64), .one .u, .one .u, .one .u, .one .u, .one .u, .one .u, .one .u, .one .u, .one .u, .one .u, .one .u, .one .u, .one .u, .one .u, .one .u, .one .u, .one .u], []⟩) ⟨[.one .u, .one .u, .one .u, .one .u, .one .u, .one .u, .one .u, .one .u, .one .u, .one .u, .one .u, .one .u, .one .u, .one .u, .one .u, .one .u, .one .u, .one .u, .one .u, .one .u, .one .u], []⟩)) .n)))
noncomputable def fi52 : FI := mkFI Tryd.f52 1 [.ct (.i .i64)] [(false, [.ct .s])] (fun _ => (.s .n (.s .n (.s (.r [0, 0, 0, 0, 0, 0, 0, 0, 0, 0, 0, 0, 0, 0, 0, 0, 0, 0, 0, 0, 0, 0] none) .n))))
noncomputable def fi53 : FI := mkFI Tryd.f53 0 [.ct .s, .ct .s] [(false, [.ct .s])] (fun _ => .n)
noncomputable def fi54 : FI := mkFI Tryd.f54 0 [.ct .s] [(false, [.ct .b])] (fun _ => (.s .n (.s (.s .n (.b (.b (.s .n (.s .n (.s (.b .n ⟨[.one .s, .one .u, .one .u, .one .u, .one .u, .one (.i .i64), .one (.i .i64), .one .u, .one .u, .one .u, .one .u, .one .u, .one .u, .one .u, .one .u, .one .u, .one .u], []⟩) .n))) ⟨[.one .s, .one .u, .one .u, .one .u, .one .u, .one (.i .i64), .one (.i .i64), .one .u, .one .u, .one .u, .one .u, .one .u, .one .u, .one .u, .one .u, .one .u, .one .u], []⟩) ⟨[.one .s, .one .u, .one .u, .one .u, .one .u, .one .u, .one .u, .one .u, .one .u, .one .u, .one .u, .one .u, .one .u, .one .u, .one .u, .one .u, .one .u], []⟩)) .n)))
noncomputable def fi55 : FI := { mkFI Tryd.f55 0 [.ct .s, .ct .s] [(false, [.ct (.i .i64)])] (fun _ => .n) with prim := some (primH [.s, .s] [.i .i64] qIndexAny) }
noncomputable def fi56 : FI := mkFI Tryd.f56 0 [.ct .s, .ct .s] [(false, [.ct .s]), (false, [.ct .s]), (false, [.ct .b])] (fun _ => .n)
noncomputable def fi57 : FI := mkFI Tryd.f57 0 [.ct .s] [(false, [.ct .b])] (fun _ => .n)
noncomputable def fi58 : FI := mkFI Tryd.f58 0 [.ct .s, .ct (.i .u8)] [(false, [.ct (.i .i64)])] (fun _ => .n)
noncomputable def fi59 : FI := mkFI Tryd.f59 0 [.ct (.sl 9), .fn] [(false, [.ct (.i .i64)])] (fun _ => (.s .n (.s (.s .n (.b (.b (.s .n (.s .n (.s (.b .n ⟨[.one (.sl 9), .one (.fn 39 []), .one .u, .one .u, .one .u, .one .u, .one .u, .one (.i .i64), .one (.i .i64), .one .u, .one .u, .one .u, .one .u, .one .u, .one .u, .one .u, .one .u, .one .u, .one .u], []⟩) .n))) ⟨[.one (.sl 9), .one (.fn 39 []), .one .u, .one .u, .one .u, .one .u, .one .u, .one (.i .i64), .one (.i .i64), .one .u, .one .u, .one .u, .one .u, .one .u, .one .u, .one .u, .one .u, .one .u, .one .u], []⟩) ⟨[.one .u, .one .u, .one .u, .one .u, .one .u, .one .u, .one .u, .one .u, .one .u, .one .u, .one .u, .one .u, .one .u, .one .u, .one .u, .one .u, .one .u, .one .u, .one .u], []⟩)) .n)))
noncomputable def fi60 : FI := mkFI Tryd.f60 1 [.ct (.sl 30), .fn] [(false, [.ct (.i .i64)])] (fun _ => (.s .n (.s (.s .n (.b (.b (.s .n (.s .n (.s (.b .n ⟨[.one (.sl 30), .one (.fn 41 [0]), .one .u, .one .u, .one .u, .one .u, .one .u, .one (.i .i64), .one (.i .i64), .one .u, .one .u, .one .u, .one .u, .one .u, .one .u, .one .u, .one .u, .one .u, .one .u], [.var 3 [.i .i64]]⟩) .n))) ⟨[.one (.sl 30), .one (.fn 41 [0]), .one .u, .one .u, .one .u, .one .u, .one .u, .one (.i .i64), .one (.i .i64), .one .u, .one .u, .one .u, .one .u, .one .u, .one .u, .one .u, .one .u, .one .u, .one .u], [.var 3 [.i .i64]]⟩) ⟨[.one .u, .one .u, .one .u, .one .u, .one .u, .one .u, .one .u, .one .u, .one .u, .one .u, .one .u, .one .u, .one .u, .one .u, .one .u, .one .u, .one .u, .one .u, .one .u], [.var 3 [.i .i64]]⟩)) .n)))
noncomputable def fi61 : FI := mkFI Tryd.f61 0 [.ct (.i .u8)] [(false, [.ct .b])] (fun _ => (.s .n (.s (.r [] (some ⟨[.one .u, .one .u, .one .b, .one .u, .one .u, .one .u, .one .u, .one .u, .one .u], []⟩)) .n)))
noncomputable def fi62 : FI := mkFI Tryd.f62 0 [.ct (.i .u8)] [(false, [.ct .b])] (fun _ => (.s .n (.s (.r [] (some ⟨[.one .u, .one .u, .one .b, .one .u, .one .u, .one .u, .one .u, .one .u, .one .u, .one .u, .one .u, .one .u, .one .u, .one .u, .one .u, .one .u, .one .u, .one .u, .one .u, .one .u, .one .u], []⟩)) .n)))
noncomputable def fi63 : FI := mkFI Tryd.f63 0 [.ct (.i .i64), .ct (.i .i64), .ct (.i .i64)] [(false, [.ct .b])] (fun _ => (.s .n (.s (.r [] (some ⟨[.one .u, .one .u, .one .u, .one .u, .one .u, .one .u, .one .b, .one .u, .one .u, .one .u, .one .u, .one .u, .one .u, .one .u, .one .u], []⟩)) .n)))
noncomputable def fi64 : FI := { mkFI Tryd.f64 0 [.ct .s, .ct .s] [(false, [.ct .b])] (fun _ => .n) with prim := some (primH [.s, .s] [.b] qContains) }
noncomputable def fi65 : FI := mkFI Tryd.f65 0 [.ct (.i .i64), .ct (.i .i64), .ct (.i .i64)] [(false, [.ct .b])] (fun _ => (.s .n (.s (.r [] (some ⟨[.one .u, .one .u, .one .u, .one .u, .one .u, .one .u, .one .b, .one .u, .one .u, .one .u, .one .u, .one .u, .one .u, .one .u, .one .u], []⟩)) .n)))
noncomputable def fi66 : FI := mkFI Tryd.f66 0 [.ct (.i .u8)] [(false, [.ct .b])] (fun _ => (.s .n (.s (.r [] (some ⟨[.one .u, .one .u, .one .b, .one .u, .one .u, .one .u, .one .u, .one .u, .one .u], []⟩)) .n)))
noncomputable def fi67 : FI := mkFI Tryd.f67 0 [.ct (.i .u8)] [(false, [.ct .b])] (fun _ => (.s .n (.s (.r [] (some ⟨[.one .u, .one .u, .one .b, .one .u, .one .u, .one .u, .one .u, .one .u, .one .u, .one .u, .one .u, .one .u, .one .u], []⟩)) .n)))
noncomputable def fi68 : FI := mkFI Tryd.f68 0 [.ct .s, .ct (.i .i64)] [(false, [.ct (.i .i64)]), (false, [.ct (.i .i64)])] (fun _ => (.s .n (.s (.s (.r [] (some ⟨[.one .s, .one (.i .i64), .one .u, .one .u, .one .u, .one .u, .one .u, .one .u, .one .u, .one .u, .one .u, .one .u, .one .u, .one .u, .one .u, .one .u, .one .u, .one .u, .one .b, .one .u, .one .u, .one .u, .one .u, .one .u, .one .u, .one .u, .one .u, .one .u, .one .u, .one .u, .one .u, .one .u, .one .u, .one .u, .one .u, .one .u, .one .u, .one .u, .one .u, .one .u, .one .u, .one .u, .one .u, .one .u, .one .u, .one .u, .one .u, .one .u, .one .u, .one .u, .one .u, .one .u, .one .u, .one .u, .one .u, .one .u, .one .u, .one .u, .one .u, .one .u, .one .u, .one .u, .one .u, .one .u, .one .u, .one .u, .one .u, .one .u, .one .u, .one .u, .one .u, .one .u, .one .u, .one .u, .one .u, .one .u, .one .u, .one .u, .one .u, .one .u, .one .u, .one .u, .one .u, .one .u, .one .u, .one .u, .one .u, .one .u, .one .u], []⟩)) .n) (.s .n (.s .n (.s .n (.s (.b (.s .n (.c .n (.s (.r [] (some ⟨[.one .s, .one (.i .i64), .one .u, .one .u, .one .u, .one .u, .one (.i .i64), .one .u, .one .u, .one .u, .one .u, .one .u, .one .u, .one .u, .one .u, .one .u, .one .u, .one .u, .one .u, .one .u, .one .u, .one .u, .one .u, .one .u, .one .u, .one .u, .one .u, .one .b, .one .u, .one .u, .one .u, .one .u, .one .u, .one .u, .one .u, .one .u, .one .u, .one .u, .one .u, .one .u, .one .u, .one .u, .one .u, .one .u, .one .u, .one .u, .one .u, .one .u, .one .u, .one .u, .one .u, .one .u, .one .u, .one .u, .one .u, .one .u, .one .u, .one .u, .one .u, .one .u, .one .u, .one .u, .one .u, .one .u, .one .u, .one .u, .one .u, .one .u, .one .u, .one .u, .one .u, .one .u, .one .u, .one .u, .one .u, .one .u, .one .u, .one .u, .one .u, .one .u, .one .u, .one .u, .one .u, .one .u, .one .u, .one .u, .one .u, .one .u, .one .u], []⟩)) (.c .n (.s (.r [] (some ⟨[.one .s, .one (.i .i64), .one .u, .one .u, .one .u, .one .u, .one (.i .i64), .one .u, .one .u, .one .u, .one .u, .one .u, .one .u, .one .u, .one .u, .one .u, .one .u, .one .u, .one .u, .one .u, .one .u, .one .u, .one .u, .one .u, .one .u, .one .u, .one .u, .one .u, .one .u, .one .u, .one .u, .one .u, .one .u, .one .u, .one .u, .one .u, .one .b, .one .u, .one .u, .one .u, .one .u, .one .u, .one .u, .one .u, .one .u, .one .u, .one .u, .one .u, .one .u, .one .u, .one .u, .one .u, .one .u, .one .u, .one .u, .one .u, .one .u, .one .u, .one .u, .one .u, .one .u, .one .u, .one .u, .one .u, .one .u, .one .u, .one .u, .one .u, .one .u, .one .u, .one .u, .one .u, .one .u, .one .u, .one .u, .one .u, .one .u, .one .u, .one .u, .one .u, .one .u, .one .u, .one .u, .one .u, .one .u, .one .u, .one .u, .one .u, .one .u], []⟩)) (.c .n (.s (.r [] (some ⟨[.one .s, .one (.i .i64), .one .u, .one .u, .one .u, .one .u, .one (.i .i64), .one .u, .one .u, .one .u, .one .u, .one .u, .one .u, .one .u, .one .u, .one .u, .one .u, .one .u, .one .u, .one .u, .one .u, .one .u, .one .u, .one .u, .one .u, .one .u, .one .u, .one .u, .one .u, .one .u, .one .u, .one .u, .one .u, .one .u, .one .u, .one .u, .one .u, .one .u, .one .u, .one .u, .one .u, .one .u, .one .u, .one .u, .one .u, .one .b, .one .u, .one .u, .one .u, .one .u, .one .u, .one .u, .one .u, .one .u, .one .u, .one .u, .one .u, .one .u, .one .u, .one .u, .one .u, .one .u, .one .u, .one .u, .one .u, .one .u, .one .u, .one .u, .one .u, .one .u, .one .u, .one .u, .one .u, .one .u, .one .u, .one .u, .one .u, .one .u, .one .u, .one .u, .one .u, .one .u, .one .u, .one .u, .one .u, .one .u, .one .u, .one .u, .one .u], []⟩)) .n) (some ⟨[.one .s, .one (.i .i64), .one .u, .one .u, .one .u, .one .u, .one .u, .one (.i .i64), .one (.i .i64), .one .u, .one .u, .one .u, .one .u, .one .u, .one .u, .one .u, .one .u, .one .u, .one .u, .one .u, .one .u, .one .u, .one .u, .one .u, .one .u, .one .u, .one .u, .one .u, .one .u, .one .u, .one .u, .one .u, .one .u, .one .u, .one .u, .one .u, .one .u, .one .u, .one .u, .one .u, .one .u, .one .u, .one .u, .one .u, .one .u, .one .u, .one .u, .one .u, .one .u, .one .u, .one .u, .one .u, .one .u, .one .u, .one .u, .one .u, .one .u, .one .u, .one .u, .one .u, .one .u, .one .u, .one .u, .one .u, .one .u, .one .u, .one .u, .one .u, .one .u, .one .u, .one .u, .one .u, .one .u, .one .u, .one .u, .one .u, .one .u, .one .u, .one .u, .one .u, .one .u, .one .u, .one .u, .one .u, .one .u, .one .u, .one .u, .one .u, .one .u], []⟩))) (some ⟨[.one .s, .one (.i .i64), .one .u, .one .u, .one .u, .one .u, .one .u, .one (.i .i64), .one (.i .i64), .one .u, .one .u, .one .u, .one .u, .one .u, .one .u, .one .u, .one .u, .one .u, .one .u, .one .u, .one .u, .one .u, .one .u, .one .u, .one .u, .one .u, .one .u, .one .u, .one .u, .one .u, .one .u, .one .u, .one .u, .one .u, .one .u, .one .u, .one .u, .one .u, .one .u, .one .u, .one .u, .one .u, .one .u, .one .u, .one .u, .one .u, .one .u, .one .u, .one .u, .one .u, .one .u, .one .u, .one .u, .one .u, .one .u, .one .u, .one .u, .one .u, .one .u, .one .u, .one .u, .one .u, .one .u, .one .u, .one .u, .one .u, .one .u, .one .u, .one .u, .one .u, .one .u, .one .u, .one .u, .one .u, .one .u, .one .u, .one .u, .one .u, .one .u, .one .u, .one .u, .one .u, .one .u, .one .u, .one .u, .one .u, .one .u, .one .u, .one .u], []⟩))) none)) ⟨[.one .s, .one (.i .i64), .one .u, .one .u, .one .u, .one .u, .one .u, .one (.i .i64), .one (.i .i64), .one .u, .one .u, .one .u, .one .u, .one .u, .one .u, .one .u, .one .u, .one .u, .one .u, .one .u, .one .u, .one .u, .one .u, .one .u, .one .u, .one .u, .one .u, .one .u, .one .u, .one .u, .one .u, .one .u, .one .u, .one .u, .one .u, .one .u, .one .u, .one .u, .one .u, .one .u, .one .u, .one .u, .one .u, .one .u, .one .u, .one .u, .one .u, .one .u, .one .u, .one .u, .one .u, .one .u, .one .u, .one .u, .one .u, .one .u, .one .u, .one .u, .one .u, .one .u, .one .u, .one .u, .one .u, .one .u, .one .u, .one .u, .one .u, .one .u, .one .u, .one .u, .one .u, .one .u, .one .u, .one .u, .one .u, .one .u, .one .u, .one .u, .one .u, .one .u, .one .u, .one .u, .one .u, .one .u, .one .u, .one .u, .one .u, .one .u, .one .u], []⟩) (.s .n (.s (.s .n (.b (.b (.s .n (.s (.b (.s .n (.s (.s (.r [] (some ⟨[.one .s, .one (.i .i64), .one .u, .one .u, .one .u, .one .u, .one .u, .one (.i .i64), .one (.i .i64), .one (.i .i64), .one (.i .i64), .one .u, .one .u, .one .u, .one .u, .one .u, .one .u, .one .u, .one .u, .one .u, .one .u, .one .u, .one .u, .one .u, .one .u, .one .u, .one .u, .one .u, .one .u, .one .u, .one .u, .one .u, .one .u, .one .u, .one .u, .one .u, .one .u, .one .u, .one .u, .one .u, .one .u, .one .u, .one .u, .one .u, .one .u, .one .u, .one .u, .one .u, .one .u, .one .u, .one .u, .one .u, .one .u, .one .u, .one .u, .one .u, .one .u, .one .u, .one .u, .one .u, .one .u, .one .u, .one .u, .one .u, .one .u, .one .u, .one .u, .one .u, .one .u, .one .u, .one .u, .one .u, .one .u, .one .u, .one .u, .one .u, .one .b, .one .u, .one .u, .one .u, .one .u, .one .u, .one .u, .one .u, .one .u, .one .u, .one .u, .one .u, .one .u], []⟩)) .n) .n)) ⟨[.one .s, .one (.i .i64), .one .u, .one .u, .one .u, .one .u, .one .u, .one (.i .i64), .one (.i .i64), .one (.i .i64), .one .u, .one .u, .one .u, .one .u, .one .u, .one .u, .one .u, .one .u, .one .u, .one .u, .one .u, .one .u, .one .u, .one .u, .one .u, .one .u, .one .u, .one .u, .one .u, .one .u, .one .u, .one .u, .one .u, .one .u, .one .u, .one .u, .one .u, .one .u, .one .u, .one .u, .one .u, .one .u, .one .u, .one .u, .one .u, .one .u, .one .u, .one .u, .one .u, .one .u, .one .u, .one .u, .one .u, .one .u, .one .u, .one .u, .one .u, .one .u, .one .u, .one .u, .one .u, .one .u, .one .u, .one .u, .one .u, .one .u, .one .u, .one .u, .one .u, .one .u, .one .u, .one .u, .one .u, .one .u, .one .u, .one .u, .one .u, .one .u, .one .u, .one .u, .one .u, .one .u, .one .u, .one .u, .one .u, .one .u, .one .u, .one .u, .one .u], []⟩) .n)) ⟨[.one .s, .one (.i .i64), .one .u, .one .u, .one .u, .one .u, .one .u, .one (.i .i64), .one (.i .i64), .one (.i .i64), .one .u, .one .u, .one .u, .one .u, .one .u, .one .u, .one .u, .one .u, .one .u, .one .u, .one .u, .one .u, .one .u, .one .u, .one .u, .one .u, .one .u, .one .u, .one .u, .one .u, .one .u, .one .u, .one .u, .one .u, .one .u, .one .u, .one .u, .one .u, .one .u, .one .u, .one .u, .one .u, .one .u, .one .u, .one .u, .one .u, .one .u, .one .u, .one .u, .one .u, .one .u, .one .u, .one .u, .one .u, .one .u, .one .u, .one .u, .one .u, .one .u, .one .u, .one .u, .one .u, .one .u, .one .u, .one .u, .one .u, .one .u, .one .u, .one .u, .one .u, .one .u, .one .u, .one .u, .one .u, .one .u, .one .u, .one .u, .one .u, .one .u, .one .u, .one .u, .one .u, .one .u, .one .u, .one .u, .one .u, .one .u, .one .u, .one .u], []⟩) ⟨[.one .u, .one .u, .one .u, .one .u, .one .u, .one .u, .one .u, .one (.i .i64), .one (.i .i64), .one .u, .one .u, .one .u, .one .u, .one .u, .one .u, .one .u, .one .u, .one .u, .one .u, .one .u, .one .u, .one .u, .one .u, .one .u, .one .u, .one .u, .one .u, .one .u, .one .u, .one .u, .one .u, .one .u, .one .u, .one .u, .one .u, .one .u, .one .u, .one .u, .one .u, .one .u, .one .u, .one .u, .one .u, .one .u, .one .u, .one .u, .one .u, .one .u, .one .u, .one .u, .one .u, .one .u, .one .u, .one .u, .one .u, .one .u, .one .u, .one .u, .one .u, .one .u, .one .u, .one .u, .one .u, .one .u, .one .u, .one .u, .one .u, .one .u, .one .u, .one .u, .one .u, .one .u, .one .u, .one .u, .one .u, .one .u, .one .u, .one .u, .one .u, .one .u, .one .u, .one .u, .one .u, .one .u, .one .u, .one .u, .one .u, .one .u, .one .u], []⟩)) .n)))))))))
noncomputable def fi69 : FI := mkFI Tryd.f69 0 [.ct .s, .ct .s] [(false, [.ct .s])] (fun _ => .n)
noncomputable def fi74 : FI := { mkFI Tryd.f74 0 [.ct .s, .ct .s] [(false, [.ct .s]), (false, [.ct .s]), (false, [.ct .b])] (fun _ => .n) with prim := some (primH [.s, .s] [.s, .s, .b] qCut) }
noncomputable def fi75 : FI := { mkFI Tryd.f75 0 [.ct .s] [(false, [.ct .b])] (fun _ => .n) with prim := some (primH [.s] [.b] qValidString) }
noncomputable def fi76 : FI := { mkFI Tryd.f76 0 [.ct .s, .ct (.i .u8)] [(false, [.ct (.i .i64)])] (fun _ => .n) with prim := some (primH [.s, .i .u8] [.i .i64] qIndexByte) }
noncomputable def fi39 : FI := mkFI Tryd.f39 0 [.ct .s] [(false, [.ct .b])] (fun _ => .n)
noncomputable def fi41 : FI := mkFI Tryd.f41 2 [.ag [.i .i64, .s, .sl 30, .sl 9], .ptr] [(false, [.ct .b])] (fun _ => (.s (.r [1, 0] none) .n))
noncomputable def fi78 : FI := mkFI Tryd.f78 0 [.ct (.i .u8)] [(false, [.ct .b])] (fun _ => (.s .n (.s (.r [] (some ⟨[.one .u, .one .u, .one .b, .one .u, .one .u, .one .u, .one .u, .one .u, .one .u, .one .u, .one .u, .one .u, .one .u, .one .u, .one .u, .one .u, .one .u], []⟩)) .n)))
noncomputable def fi79 : FI := mkFI Tryd.f79 4 [.ct (.i .i64)] [(false, [.ct .s])] (fun _ => (.s .n (.s .n (.s (.b (.s .n (.c (.s (.r [0, 0, 0, 0, 0] none) .n) (.s .n (.c (.s (.r [0, 0, 0, 0, 0, 0, 0, 0, 1, 0, 0] none) .n) (.s .n (.c (.s (.r [0, 0, 0, 0, 0, 0, 0, 0, 0, 0, 0, 0, 0, 2, 0, 0] none) .n) .n none)) none)) none)) ⟨[.one (.i .i64), .one .u, .one .u, .one .u, .one .u, .one .u, .one .u, .one .u, .one .u, .one .u, .one .u, .one .u, .one .u, .one .u, .one .u, .one .u, .one .u, .one .u, .one .u, .one .u, .one .u, .one .u, .one .u, .one .u, .one .u, .one .u, .one .u, .one .u, .one .u, .one .u, .one .u, .one .u, .one .u, .one .u, .one .u, .one .u, .one .u, .one .u, .one .u, .one .u, .one .u, .one .u, .one .u, .one .u, .one .u, .one .u, .one .u, .one .u, .one .u, .one .u, .one .u, .one .u, .one .u, .one .u, .one .u, .one .u, .one .u, .one .u, .one .u, .one .u, .one .u, .one .u, .one .u, .one .u], [.u, .u, .u, .u]⟩) (.s (.r [0, 0, 0, 0, 0, 0, 0, 0, 0, 0, 0, 0, 0, 0, 0, 0, 0, 0, 3, 0, 0] none) .n)))))
noncomputable def fi80 : FI := mkFI Tryd.f80 0 [.ct .s, .ct .s] [(false, [.ct .b])] (fun _ => (.s .n (.s (.r [] (some ⟨[.one .u, .one .u, .one .u, .one .u, .one .b, .one .u, .one .u, .one .u, .one .u, .one .u, .one .u, .one .u, .one .u, .one .u, .one .u, .one .u, .one .u, .one .u], []⟩)) .n)))
noncomputable def fi87 : FI := mkFI Tryd.f87 0 [.ct (.i .i64)] [(false, [.ct .b])] (fun _ => (.s .n (.s (.r [] (some ⟨[.one .u, .one .u, .one .b, .one .u, .one .u, .one .u, .one .u, .one .u, .one .u, .one .u], []⟩)) .n)))
noncomputable def fnL : List (Nat × FI) := [(3, fi3), (4, fi4), (5, fi5), (7, fi7), (6, fi6), (8, fi8), (9, fi9), (10, fi10), (12, fi12), (11, fi11), (13, fi13), (14, fi14), (15, fi15), (16, fi16), (18, fi18), (19, fi19), (17, fi17), (20, fi20), (21, fi21), (22, fi22), (23, fi23), (27, fi27), (24, fi24), (25, fi25), (26, fi26), (28, fi28), (29, fi29), (30, fi30), (31, fi31), (32, fi32), (33, fi33), (34, fi34), (35, fi35), (36, fi36), (37, fi37), (38, fi38), (40, fi40), (42, fi42), (43, fi43), (44, fi44), (45, fi45), (46, fi46), (47, fi47), (48, fi48), (49, fi49), (50, fi50), (51, fi51), (52, fi52), (53, fi53), (54, fi54), (55, fi55), (56, fi56), (57, fi57), (58, fi58), (59, fi59), (60, fi60), (61, fi61), (62, fi62), (63, fi63), (64, fi64), (65, fi65), (66, fi66), (67, fi67), (68, fi68), (69, fi69), (74, fi74), (75, fi75), (76, fi76), (39, fi39), (41, fi41), (78, fi78), (79, fi79), (80, fi80), (87, fi87)]
noncomputable def cfg : Cfg := ⟨fun t => look t tyL, fun f => look f fnL⟩
theorem tys : tyB Tryd.prog tyL = true := by kernel_rfl
theorem fns : ∀ x ∈ fnL, FnOk Tryd.prog G cfg.ty x.1 x.2 :=
  all_cons (mkFI_ok Tryd.func3 (by kernel_rfl)) <|
  all_cons (mkFI_ok Tryd.func4 (by kernel_rfl)) <|
  all_cons (mkFI_ok Tryd.func5 (by kernel_rfl)) <|
  all_cons (mkFI_ok Tryd.func7 (by kernel_rfl)) <|
  all_cons (mkFI_ok Tryd.func6 (by kernel_rfl)) <|
  all_cons (mkFI_ok Tryd.func8 (by kernel_rfl)) <|
  all_cons (mkFI_ok Tryd.func9 (by kernel_rfl)) <|
  all_cons (mkFI_ok Tryd.func10 (by kernel_rfl)) <|
  all_cons (mkFI_ok Tryd.func12 (by kernel_rfl)) <|
  all_cons (mkFI_ok Tryd.func11 (by kernel_rfl)) <|
  all_cons (mkFI_ok Tryd.func13 (by kernel_rfl)) <|
  all_cons (mkFI_ok Tryd.func14 (by kernel_rfl)) <|
  all_cons (mkFI_ok Tryd.func15 (by kernel_rfl)) <|
  all_cons (mkFI_ok Tryd.func16 (by kernel_rfl)) <|
  all_cons (mkFI_ok Tryd.func18 (by kernel_rfl)) <|
  all_cons (mkFI_ok Tryd.func19 (by kernel_rfl)) <|
  all_cons (mkFI_ok Tryd.func17 (by kernel_rfl)) <|
  all_cons (mkFI_ok Tryd.func20 (by kernel_rfl)) <|
  all_cons (mkFI_ok Tryd.func21 (by kernel_rfl)) <|
  all_cons (mkFI_ok Tryd.func22 (by kernel_rfl)) <|
  all_cons (mkFI_ok Tryd.func23 (by kernel_rfl)) <|
  all_cons (mkFI_ok Tryd.func27 (by kernel_rfl)) <|
  all_cons (mkFI_ok Tryd.func24 (by kernel_rfl)) <|
  all_cons (mkFI_ok Tryd.func25 (by kernel_rfl)) <|
  all_cons (mkFI_ok Tryd.func26 (by kernel_rfl)) <|
  all_cons (mkFI_ok Tryd.func28 (by kernel_rfl)) <|
  all_cons (mkFI_ok Tryd.func29 (by kernel_rfl)) <|
  all_cons (mkFI_ok Tryd.func30 (by kernel_rfl)) <|
  all_cons (mkFI_ok Tryd.func31 (by kernel_rfl)) <|
  all_cons (mkFI_ok Tryd.func32 (by kernel_rfl)) <|
  all_cons (mkFI_ok Tryd.func33 (by kernel_rfl)) <|
  all_cons (mkFI_ok Tryd.func34 (by kernel_rfl)) <|
  all_cons (mkFI_ok Tryd.func35 (by kernel_rfl)) <|
  all_cons (mkFI_ok Tryd.func36 (by kernel_rfl)) <|
  all_cons (mkFI_ok Tryd.func37 (by kernel_rfl)) <|
  all_cons (mkFI_ok Tryd.func38 (by kernel_rfl)) <|
  all_cons (mkFI_ok Tryd.func40 (by kernel_rfl)) <|
  all_cons (mkFI_ok Tryd.func42 (by kernel_rfl)) <|
  all_cons (mkFI_ok Tryd.func43 (by kernel_rfl)) <|
  all_cons (mkFI_ok Tryd.func44 (by kernel_rfl)) <|
  all_cons (mkFI_ok Tryd.func45 (by kernel_rfl)) <|
  all_cons (mkFI_ok Tryd.func46 (by kernel_rfl)) <|
  all_cons (mkFI_ok Tryd.func47 (by kernel_rfl)) <|
  all_cons (mkFI_ok Tryd.func48 (by kernel_rfl)) <|
  all_cons (mkFI_ok Tryd.func49 (by kernel_rfl)) <|
  all_cons (mkFI_ok Tryd.func50 (by kernel_rfl)) <|
  all_cons (mkFI_ok Tryd.func51 (by kernel_rfl)) <|
  all_cons (mkFI_ok Tryd.func52 (by kernel_rfl)) <|
  all_cons (mkFI_ok Tryd.func53 (by kernel_rfl)) <|
  all_cons (mkFI_ok Tryd.func54 (by kernel_rfl)) <|
  all_cons (prim_lit (cts := [.s, .s]) (rcts := [.i .i64]) Tryd.func55 (by kernel_rfl) (by kernel_rfl) (by kernel_rfl) rfl call_IndexAny) <|
  all_cons (mkFI_ok Tryd.func56 (by kernel_rfl)) <|
  all_cons (mkFI_ok Tryd.func57 (by kernel_rfl)) <|
  all_cons (mkFI_ok Tryd.func58 (by kernel_rfl)) <|
  all_cons (mkFI_ok Tryd.func59 (by kernel_rfl)) <|
  all_cons (mkFI_ok Tryd.func60 (by kernel_rfl)) <|
  all_cons (mkFI_ok Tryd.func61 (by kernel_rfl)) <|
  all_cons (mkFI_ok Tryd.func62 (by kernel_rfl)) <|
  all_cons (mkFI_ok Tryd.func63 (by kernel_rfl)) <|
  all_cons (prim_lit (cts := [.s, .s]) (rcts := [.b]) Tryd.func64 (by kernel_rfl) (by kernel_rfl) (by kernel_rfl) rfl call_Contains) <|
  all_cons (mkFI_ok Tryd.func65 (by kernel_rfl)) <|
  all_cons (mkFI_ok Tryd.func66 (by kernel_rfl)) <|
  all_cons (mkFI_ok Tryd.func67 (by kernel_rfl)) <|
  all_cons (mkFI_ok Tryd.func68 (by kernel_rfl)) <|
  all_cons (mkFI_ok Tryd.func69 (by kernel_rfl)) <|
  all_cons (prim_lit (cts := [.s, .s]) (rcts := [.s, .s, .b]) Tryd.func74 (by kernel_rfl) (by kernel_rfl) (by kernel_rfl) rfl call_Cut) <|
  all_cons (prim_lit (cts := [.s]) (rcts := [.b]) Tryd.func75 (by kernel_rfl) (by kernel_rfl) (by kernel_rfl) rfl call_ValidString) <|
  all_cons (prim_lit (cts := [.s, .i .u8]) (rcts := [.i .i64]) Tryd.func76 (by kernel_rfl) (by kernel_rfl) (by kernel_rfl) rfl call_IndexByte) <|
  all_cons (mkFI_ok Tryd.func39 (by kernel_rfl)) <|
  all_cons (mkFI_ok Tryd.func41 (by kernel_rfl)) <|
  all_cons (mkFI_ok Tryd.func78 (by kernel_rfl)) <|
  all_cons (mkFI_ok Tryd.func79 (by kernel_rfl)) <|
  all_cons (mkFI_ok Tryd.func80 (by kernel_rfl)) <|
  all_cons (mkFI_ok Tryd.func87 (by kernel_rfl)) <| all_nil
/-- loop.example/g00964/laws.FnExactJsonOk -/
noncomputable def r_laws_FnExactJsonOk (a : List DC) : Out := Run cfg 3 h_laws_FnExactJsonOk a
/-- loop.example/g00964/laws.FnExactShortText -/
noncomputable def r_laws_FnExactShortText (a : List DC) : Out := Run cfg 4 h_laws_FnExactShortText a
/-- loop.example/g00964/laws.szJson -/
noncomputable def r_laws_szJson (a : List DC) : Out := Run cfg 5 h_laws_szJson a
/-- loop.example/g00964/laws.toJson -/
noncomputable def r_laws_toJson (a : List DC) : Out := Run cfg 7 h_laws_toJson a
/-- loop.example/g00964/spec.JsonOk -/
noncomputable def r_spec_JsonOk (a : List DC) : Out := Run cfg 6 h_spec_JsonOk a
/-- loop.example/g00964/impl.JsonOk -/
noncomputable def r_impl_JsonOk (a : List DC) : Out := Run cfg 8 h_impl_JsonOk a
/-- loop.example/g00964/laws.eqJson -/
noncomputable def r_laws_eqJson (a : List DC) : Out := Run cfg 9 h_laws_eqJson a
/-- loop.example/g00964/laws.szTokenS -/
noncomputable def r_laws_szTokenS (a : List DC) : Out := Run cfg 10 h_laws_szTokenS a
/-- loop.example/g00964/laws.toTokenS -/
noncomputable def r_laws_toTokenS (a : List DC) : Out := Run cfg 12 h_laws_toTokenS a
/-- loop.example/g00964/spec.ShortText -/
noncomputable def r_spec_ShortText (a : List DC) : Out := Run cfg 11 h_spec_ShortText a
/-- loop.example/g00964/impl.ShortText -/
noncomputable def r_impl_ShortText (a : List DC) : Out := Run cfg 13 h_impl_ShortText a
/-- loop.example/g00964/laws.eqTokenS -/
noncomputable def r_laws_eqTokenS (a : List DC) : Out := Run cfg 14 h_laws_eqTokenS a
/-- loop.example/g00964/laws.szJsonS -/
noncomputable def r_laws_szJsonS (a : List DC) : Out := Run cfg 15 h_laws_szJsonS a
/-- loop.example/g00964/laws.szStringS -/
noncomputable def r_laws_szStringS (a : List DC) : Out := Run cfg 16 h_laws_szStringS a
/-- loop.example/g00964/laws.toJsonS -/
noncomputable def r_laws_toJsonS (a : List DC) : Out := Run cfg 18 h_laws_toJsonS a
/-- loop.example/g00964/laws.toStringS -/
noncomputable def r_laws_toStringS (a : List DC) : Out := Run cfg 19 h_laws_toStringS a
/-- loop.example/g00964/spec.l22Right -/
noncomputable def r_spec_l22Right (a : List DC) : Out := Run cfg 17 h_spec_l22Right a
/-- loop.example/g00964/impl.jsonOk -/
noncomputable def r_impl_jsonOk (a : List DC) : Out := Run cfg 20 h_impl_jsonOk a
/-- loop.example/g00964/laws.eqJsonS -/
noncomputable def r_laws_eqJsonS (a : List DC) : Out := Run cfg 21 h_laws_eqJsonS a
/-- loop.example/g00964/laws.eqStringS -/
noncomputable def r_laws_eqStringS (a : List DC) : Out := Run cfg 22 h_laws_eqStringS a
/-- loop.example/g00964/laws.szToken -/
noncomputable def r_laws_szToken (a : List DC) : Out := Run cfg 23 h_laws_szToken a
/-- loop.example/g00964/laws.toToken -/
noncomputable def r_laws_toToken (a : List DC) : Out := Run cfg 27 h_laws_toToken a
/-- loop.example/g00964/spec.TokenOk -/
noncomputable def r_spec_TokenOk (a : List DC) : Out := Run cfg 24 h_spec_TokenOk a
/-- loop.example/g00964/spec.Apart -/
noncomputable def r_spec_Apart (a : List DC) : Out := Run cfg 25 h_spec_Apart a
/-- loop.example/g00964/spec.TokenText -/
noncomputable def r_spec_TokenText (a : List DC) : Out := Run cfg 26 h_spec_TokenText a
/-- loop.example/g00964/impl.TokenOk -/
noncomputable def r_impl_TokenOk (a : List DC) : Out := Run cfg 28 h_impl_TokenOk a
/-- loop.example/g00964/impl.Apart -/
noncomputable def r_impl_Apart (a : List DC) : Out := Run cfg 29 h_impl_Apart a
/-- loop.example/g00964/impl.TokenText -/
noncomputable def r_impl_TokenText (a : List DC) : Out := Run cfg 30 h_impl_TokenText a
/-- loop.example/g00964/laws.eqToken -/
noncomputable def r_laws_eqToken (a : List DC) : Out := Run cfg 31 h_laws_eqToken a
/-- loop.example/g00964/spec.IntOk -/
noncomputable def r_spec_IntOk (a : List DC) : Out := Run cfg 32 h_spec_IntOk a
/-- loop.example/g00964/spec.FloatOk -/
noncomputable def r_spec_FloatOk (a : List DC) : Out := Run cfg 33 h_spec_FloatOk a
/-- loop.example/g00964/spec.Escaped -/
noncomputable def r_spec_Escaped (a : List DC) : Out := Run cfg 34 h_spec_Escaped a
/-- loop.example/g00964/impl.IntOk -/
noncomputable def r_impl_IntOk (a : List DC) : Out := Run cfg 35 h_impl_IntOk a
/-- loop.example/g00964/impl.FloatOk -/
noncomputable def r_impl_FloatOk (a : List DC) : Out := Run cfg 36 h_impl_FloatOk a
/-- loop.example/g00964/impl.Escaped -/
noncomputable def r_impl_Escaped (a : List DC) : Out := Run cfg 37 h_impl_Escaped a
/-- slices.ContainsFunc[[]string,string] -/
noncomputable def r_slices_ContainsFunc_string__impl_jsonOk_1 (a : List DC) : Out := Run cfg 38 h_slices_ContainsFunc_string__impl_jsonOk_1 a
/-- slices.ContainsFunc[[]loop.example/g00964/impl.Json,loop.example/g00964/impl.Json] -/
noncomputable def r_slices_ContainsFunc_impl_Json__impl_jsonOk_2 (a : List DC) : Out := Run cfg 40 h_slices_ContainsFunc_impl_Json__impl_jsonOk_2 a
/-- loop.example/g00964/spec.SignOk -/
noncomputable def r_spec_SignOk (a : List DC) : Out := Run cfg 42 h_spec_SignOk a
/-- loop.example/g00964/spec.NameOk -/
noncomputable def r_spec_NameOk (a : List DC) : Out := Run cfg 43 h_spec_NameOk a
/-- loop.example/g00964/spec.l15Wordy -/
noncomputable def r_spec_l15Wordy (a : List DC) : Out := Run cfg 44 h_spec_l15Wordy a
/-- loop.example/g00964/impl.SignOk -/
noncomputable def r_impl_SignOk (a : List DC) : Out := Run cfg 45 h_impl_SignOk a
/-- loop.example/g00964/impl.NameOk -/
noncomputable def r_impl_NameOk (a : List DC) : Out := Run cfg 46 h_impl_NameOk a
/-- loop.example/g00964/impl.Apart$1 -/
noncomputable def r_impl_Apart_1 (a : List DC) : Out := Run cfg 47 h_impl_Apart_1 a
/-- loop.example/g00964/impl.isNumber -/
noncomputable def r_impl_isNumber (a : List DC) : Out := Run cfg 48 h_impl_isNumber a
/-- loop.example/g00964/spec.l03Int -/
noncomputable def r_spec_l03Int (a : List DC) : Out := Run cfg 49 h_spec_l03Int a
/-- loop.example/g00964/spec.l03Run -/
noncomputable def r_spec_l03Run (a : List DC) : Out := Run cfg 50 h_spec_l03Run a
/-- loop.example/g00964/spec.TextOk -/
noncomputable def r_spec_TextOk (a : List DC) : Out := Run cfg 51 h_spec_TextOk a
/-- loop.example/g00964/spec.l04Hex4 -/
noncomputable def r_spec_l04Hex4 (a : List DC) : Out := Run cfg 52 h_spec_l04Hex4 a
/-- strings.TrimPrefix -/
noncomputable def r_strings_TrimPrefix (a : List DC) : Out := Run cfg 53 h_strings_TrimPrefix a
/-- loop.example/g00964/impl.figures -/
noncomputable def r_impl_figures (a : List DC) : Out := Run cfg 54 h_impl_figures a
/-- strings.IndexAny -/
noncomputable def r_strings_IndexAny (a : List DC) : Out := Run cfg 55 h_strings_IndexAny a
/-- strings.Cut -/
noncomputable def r_strings_Cut (a : List DC) : Out := Run cfg 56 h_strings_Cut a
/-- loop.example/g00964/impl.TextOk -/
noncomputable def r_impl_TextOk (a : List DC) : Out := Run cfg 57 h_impl_TextOk a
/-- strings.IndexByte -/
noncomputable def r_strings_IndexByte (a : List DC) : Out := Run cfg 58 h_strings_IndexByte a
/-- slices.IndexFunc[[]string,string] -/
noncomputable def r_slices_IndexFunc_string__impl_jsonOk_1 (a : List DC) : Out := Run cfg 59 h_slices_IndexFunc_string__impl_jsonOk_1 a
/-- slices.IndexFunc[[]loop.example/g00964/impl.Json,loop.example/g00964/impl.Json] -/
noncomputable def r_slices_IndexFunc_impl_Json__impl_jsonOk_2 (a : List DC) : Out := Run cfg 60 h_slices_IndexFunc_impl_Json__impl_jsonOk_2 a
/-- loop.example/g00964/spec.l03Figure -/
noncomputable def r_spec_l03Figure (a : List DC) : Out := Run cfg 61 h_spec_l03Figure a
/-- loop.example/g00964/spec.l03Letter -/
noncomputable def r_spec_l03Letter (a : List DC) : Out := Run cfg 62 h_spec_l03Letter a
/-- loop.example/g00964/spec.l01In -/
noncomputable def r_spec_l01In (a : List DC) : Out := Run cfg 63 h_spec_l01In a
/-- strings.Contains -/
noncomputable def r_strings_Contains (a : List DC) : Out := Run cfg 64 h_strings_Contains a
/-- loop.example/g00964/impl.in -/
noncomputable def r_impl_in (a : List DC) : Out := Run cfg 65 h_impl_in a
/-- loop.example/g00964/impl.isFigure -/
noncomputable def r_impl_isFigure (a : List DC) : Out := Run cfg 66 h_impl_isFigure a
/-- loop.example/g00964/impl.inName -/
noncomputable def r_impl_inName (a : List DC) : Out := Run cfg 67 h_impl_inName a
/-- loop.example/g00964/spec.RuneAt -/
noncomputable def r_spec_RuneAt (a : List DC) : Out := Run cfg 68 h_spec_RuneAt a
/-- internal/stringslite.TrimPrefix -/
noncomputable def r_internal_stringslite_TrimPrefix (a : List DC) : Out := Run cfg 69 h_internal_stringslite_TrimPrefix a
/-- internal/stringslite.Cut -/
noncomputable def r_internal_stringslite_Cut (a : List DC) : Out := Run cfg 74 h_internal_stringslite_Cut a
/-- unicode/utf8.ValidString -/
noncomputable def r_unicode_utf8_ValidString (a : List DC) : Out := Run cfg 75 h_unicode_utf8_ValidString a
/-- internal/stringslite.IndexByte -/
noncomputable def r_internal_stringslite_IndexByte (a : List DC) : Out := Run cfg 76 h_internal_stringslite_IndexByte a
/-- loop.example/g00964/impl.jsonOk$1 -/
noncomputable def r_impl_jsonOk_1 (a : List DC) : Out := Run cfg 39 h_impl_jsonOk_1 a
/-- loop.example/g00964/impl.jsonOk$2 -/
noncomputable def r_impl_jsonOk_2 (a : List DC) : Out := Run cfg 41 h_impl_jsonOk_2 a
/-- loop.example/g00964/impl.isLetter -/
noncomputable def r_impl_isLetter (a : List DC) : Out := Run cfg 78 h_impl_isLetter a
/-- loop.example/g00964/spec.RuneText -/
noncomputable def r_spec_RuneText (a : List DC) : Out := Run cfg 79 h_spec_RuneText a
/-- internal/stringslite.HasPrefix -/
noncomputable def r_internal_stringslite_HasPrefix (a : List DC) : Out := Run cfg 80 h_internal_stringslite_HasPrefix a
/-- loop.example/g00964/spec.l02Scalar -/
noncomputable def r_spec_l02Scalar (a : List DC) : Out := Run cfg 87 h_spec_l02Scalar a
end Go.Proofs.YtljggmbgbnmapaaDoorV

/- What the functions do, and that they do (written by a program). -/
namespace Go.Proofs.YtljggmbgbnmapaaDoorV
open Go
set_option linter.unusedVariables false
set_option maxRecDepth 100000
/-- loop.example/g00964/laws.FnExactJsonOk -/
noncomputable def E_laws_FnExactJsonOk (a : List DC) : Out :=
    (r_laws_szJson [DC.i ((a.getD 0 d0).ii), DC.s ((a.getD 1 d0).ss), DC.sl ((a.getD 2 d0).ll), DC.sl ((a.getD 3 d0).ll), DC.i (1048576 : Int)]).bindR fun r1 =>
    if (decide ((r1.getD 0 d0).ii < (0 : Int))) = true then
      .ret [DC.b true]
    else
      (r_laws_toJson [DC.i ((a.getD 0 d0).ii), DC.s ((a.getD 1 d0).ss), DC.sl ((a.getD 2 d0).ll), DC.sl ((a.getD 3 d0).ll)]).bindR fun r2 =>
      (r_spec_JsonOk [DC.i ((r2.getD 0 d0).ii), DC.s ((r2.getD 1 d0).ss), DC.sl ((r2.getD 2 d0).ll), DC.sl ((r2.getD 3 d0).ll)]).bindR fun r3 =>
      (r_laws_toJson [DC.i ((a.getD 0 d0).ii), DC.s ((a.getD 1 d0).ss), DC.sl ((a.getD 2 d0).ll), DC.sl ((a.getD 3 d0).ll)]).bindR fun r4 =>
      (r_impl_JsonOk [DC.i ((r4.getD 0 d0).ii), DC.s ((r4.getD 1 d0).ss), DC.sl ((r4.getD 2 d0).ll), DC.sl ((r4.getD 3 d0).ll)]).bindR fun r5 =>
      if (!((r5.getD 0 d0).bb == (r3.getD 0 d0).bb)) = true then
        .ret [DC.b false]
      else
        (r_laws_toJson [DC.i ((a.getD 0 d0).ii), DC.s ((a.getD 1 d0).ss), DC.sl ((a.getD 2 d0).ll), DC.sl ((a.getD 3 d0).ll)]).bindR fun r6 =>
        (r_laws_eqJson [DC.i ((r4.getD 0 d0).ii), DC.s ((r4.getD 1 d0).ss), DC.sl ((r4.getD 2 d0).ll), DC.sl ((r4.getD 3 d0).ll), DC.i ((r6.getD 0 d0).ii), DC.s ((r6.getD 1 d0).ss), DC.sl ((r6.getD 2 d0).ll), DC.sl ((r6.getD 3 d0).ll)]).bindR fun r7 =>
        if (!((r7.getD 0 d0).bb)) = true then
          .ret [DC.b false]
        else
          .ret [DC.b true]
theorem eq_laws_FnExactJsonOk (a : List DC) : r_laws_FnExactJsonOk a = E_laws_FnExactJsonOk a := (Run_eq cfg 3 h_laws_FnExactJsonOk a).trans (by kernel_rfl)
/-- loop.example/g00964/laws.FnExactShortText -/
noncomputable def E_laws_FnExactShortText (a : List DC) : Out :=
    (r_laws_szTokenS [DC.sl ((a.getD 0 d0).ll), DC.i (1048576 : Int)]).bindR fun r1 =>
    if (decide ((r1.getD 0 d0).ii < (0 : Int))) = true then
      .ret [DC.b true]
    else
      (r_laws_toTokenS [DC.sl ((a.getD 0 d0).ll)]).bindR fun r2 =>
      (r_spec_ShortText [DC.sl ((r2.getD 0 d0).ll)]).bindR fun r3 =>
      (r_laws_toTokenS [DC.sl ((a.getD 0 d0).ll)]).bindR fun r4 =>
      (r_impl_ShortText [DC.sl ((r4.getD 0 d0).ll)]).bindR fun r5 =>
      if (!((r5.getD 0 d0).ss == (r3.getD 0 d0).ss)) = true then
        .ret [DC.b false]
      else
        (r_laws_toTokenS [DC.sl ((a.getD 0 d0).ll)]).bindR fun r6 =>
        (r_laws_eqTokenS [DC.sl ((r4.getD 0 d0).ll), DC.sl ((r6.getD 0 d0).ll)]).bindR fun r7 =>
        if (!((r7.getD 0 d0).bb)) = true then
          .ret [DC.b false]
        else
          .ret [DC.b true]
theorem eq_laws_FnExactShortText (a : List DC) : r_laws_FnExactShortText a = E_laws_FnExactShortText a := (Run_eq cfg 4 h_laws_FnExactShortText a).trans (by kernel_rfl)
/-- loop.example/g00964/laws.szJson -/
noncomputable def E_laws_szJson (a : List DC) : Out :=
    if (decide ((IntKind.i64.wrap ((a.getD 4 d0).ii - (((a.getD 1 d0).ss).length : Int))) < (0 : Int))) = true then
      .ret [DC.i (-1 : Int)]
    else
      (r_laws_szJsonS [DC.sl ((a.getD 2 d0).ll), DC.i (IntKind.i64.wrap ((a.getD 4 d0).ii - (((a.getD 1 d0).ss).length : Int)))]).bindR fun r1 =>
      if (decide ((r1.getD 0 d0).ii < (0 : Int))) = true then
        .ret [DC.i (-1 : Int)]
      else
        (r_laws_szStringS [DC.sl ((a.getD 3 d0).ll), DC.i ((r1.getD 0 d0).ii)]).bindR fun r2 =>
        if (decide ((r2.getD 0 d0).ii < (0 : Int))) = true then
          .ret [DC.i (-1 : Int)]
        else
          .ret [DC.i ((r2.getD 0 d0).ii)]
theorem eq_laws_szJson (a : List DC) : r_laws_szJson a = E_laws_szJson a := (Run_eq cfg 5 h_laws_szJson a).trans (by kernel_rfl)
/-- loop.example/g00964/laws.toJson -/
noncomputable def E_laws_toJson (a : List DC) : Out :=
    (r_laws_toJsonS [DC.sl ((a.getD 2 d0).ll)]).bindR fun r1 =>
    (r_laws_toStringS [DC.sl ((a.getD 3 d0).ll)]).bindR fun r2 =>
    .ret [DC.i ((a.getD 0 d0).ii), DC.s ((a.getD 1 d0).ss), DC.sl ((r1.getD 0 d0).ll), DC.sl ((r2.getD 0 d0).ll)]
theorem eq_laws_toJson (a : List DC) : r_laws_toJson a = E_laws_toJson a := (Run_eq cfg 7 h_laws_toJson a).trans (by kernel_rfl)
/-- loop.example/g00964/spec.JsonOk -/
noncomputable def E_spec_JsonOk (a : List DC) : Out :=
    (r_spec_l22Right [DC.i ((a.getD 0 d0).ii), DC.s ((a.getD 1 d0).ss), DC.sl ((a.getD 2 d0).ll), DC.sl ((a.getD 3 d0).ll), DC.i (20 : Int)]).bindR fun r1 =>
    .ret [DC.b ((r1.getD 0 d0).bb)]
theorem eq_spec_JsonOk (a : List DC) : r_spec_JsonOk a = E_spec_JsonOk a := (Run_eq cfg 6 h_spec_JsonOk a).trans (by kernel_rfl)
/-- loop.example/g00964/impl.JsonOk -/
noncomputable def E_impl_JsonOk (a : List DC) : Out :=
    (r_impl_jsonOk [DC.i ((a.getD 0 d0).ii), DC.s ((a.getD 1 d0).ss), DC.sl ((a.getD 2 d0).ll), DC.sl ((a.getD 3 d0).ll), DC.i (20 : Int)]).bindR fun r1 =>
    .ret [DC.b ((r1.getD 0 d0).bb)]
theorem eq_impl_JsonOk (a : List DC) : r_impl_JsonOk a = E_impl_JsonOk a := (Run_eq cfg 8 h_impl_JsonOk a).trans (by kernel_rfl)
/-- loop.example/g00964/laws.eqJson -/
noncomputable def E_laws_eqJson (a : List DC) : Out :=
    if ((a.getD 0 d0).ii != (a.getD 4 d0).ii) = true then
      .ret [DC.b false]
    else
      if (!((a.getD 1 d0).ss == (a.getD 5 d0).ss)) = true then
        .ret [DC.b false]
      else
        (r_laws_eqJsonS [DC.sl ((a.getD 2 d0).ll), DC.sl ((a.getD 6 d0).ll)]).bindR fun r1 =>
        if (!((r1.getD 0 d0).bb)) = true then
          .ret [DC.b false]
        else
          (r_laws_eqStringS [DC.sl ((a.getD 3 d0).ll), DC.sl ((a.getD 7 d0).ll)]).bindR fun r2 =>
          if (!((r2.getD 0 d0).bb)) = true then
            .ret [DC.b false]
          else
            .ret [DC.b true]
theorem eq_laws_eqJson (a : List DC) : r_laws_eqJson a = E_laws_eqJson a := (Run_eq cfg 9 h_laws_eqJson a).trans (by kernel_rfl)
noncomputable def E_laws_szTokenSL1 : List DC → Out := fun v1 =>
    if (decide ((v1.getD 2 d0).ii < (((v1.getD 0 d0).ll).length : Int))) = true then
      Out.andThenB (if 50 = 50 ∧ 0 ≤ (v1.getD 2 d0).ii ∧ (v1.getD 2 d0).ii < (((v1.getD 0 d0).ll).length : Int) then
          (r_laws_szToken [DC.i (((((v1.getD 0 d0).ll).getD ((v1.getD 2 d0).ii).toNat []).getD 0 d0).ii), DC.s (((((v1.getD 0 d0).ll).getD ((v1.getD 2 d0).ii).toNat []).getD 1 d0).ss), DC.i (((((v1.getD 0 d0).ll).getD ((v1.getD 2 d0).ii).toNat []).getD 2 d0).ii), DC.i ((v1.getD 1 d0).ii)]).bindR fun r2 =>
          if (decide ((r2.getD 0 d0).ii < (0 : Int))) = true then
            .ret [DC.i (-1 : Int)]
          else
            .norm [DC.sl ((v1.getD 0 d0).ll), DC.i ((r2.getD 0 d0).ii), DC.i ((v1.getD 2 d0).ii)]
        else
          .fail) 1 fun v3 =>
      .norm [DC.sl ((v3.getD 0 d0).ll), DC.i ((v3.getD 1 d0).ii), DC.i (IntKind.i64.wrap ((v3.getD 2 d0).ii + (1 : Int)))]
    else
      .ex 0 [DC.i ((v1.getD 1 d0).ii)]
/-- loop.example/g00964/laws.szTokenS -/
noncomputable def E_laws_szTokenS (a : List DC) : Out :=
    if (decide ((IntKind.i64.wrap ((a.getD 1 d0).ii - (((a.getD 0 d0).ll).length : Int))) < (0 : Int))) = true then
      .ret [DC.i (-1 : Int)]
    else
      Out.andThenB (Loop E_laws_szTokenSL1 [DC.sl ((a.getD 0 d0).ll), DC.i (IntKind.i64.wrap ((a.getD 1 d0).ii - (((a.getD 0 d0).ll).length : Int))), DC.i (0 : Int)]) 0 fun v4 =>
      .ret [DC.i ((v4.getD 0 d0).ii)]
theorem eq_laws_szTokenS (a : List DC) : r_laws_szTokenS a = E_laws_szTokenS a := (Run_eq cfg 10 h_laws_szTokenS a).trans (by kernel_rfl)
noncomputable def E_laws_toTokenSL1 : List DC → Out := fun v1 =>
    if (decide ((v1.getD 2 d0).ii < (((v1.getD 0 d0).ll).length : Int))) = true then
      Out.andThenB (if 50 = 50 ∧ 0 ≤ (v1.getD 2 d0).ii ∧ (v1.getD 2 d0).ii < (((v1.getD 0 d0).ll).length : Int) then
          (r_laws_toToken [DC.i (((((v1.getD 0 d0).ll).getD ((v1.getD 2 d0).ii).toNat []).getD 0 d0).ii), DC.s (((((v1.getD 0 d0).ll).getD ((v1.getD 2 d0).ii).toNat []).getD 1 d0).ss), DC.i (((((v1.getD 0 d0).ll).getD ((v1.getD 2 d0).ii).toNat []).getD 2 d0).ii)]).bindR fun r2 =>
          if 53 = 53 ∧ 0 ≤ (v1.getD 2 d0).ii ∧ (v1.getD 2 d0).ii < (((v1.getD 1 d0).ll).length : Int) then
            .norm [DC.sl ((v1.getD 0 d0).ll), DC.sl (((v1.getD 1 d0).ll).set (((v1.getD 2 d0).ii).toNat) (setRunD (((v1.getD 1 d0).ll).getD (((v1.getD 2 d0).ii).toNat) []) 0 [DC.i ((r2.getD 0 d0).ii), DC.s ((r2.getD 1 d0).ss), DC.i ((r2.getD 2 d0).ii)])), DC.i ((v1.getD 2 d0).ii)]
          else
            .fail
        else
          .fail) 1 fun v3 =>
      .norm [DC.sl ((v3.getD 0 d0).ll), DC.sl ((v3.getD 1 d0).ll), DC.i (IntKind.i64.wrap ((v3.getD 2 d0).ii + (1 : Int)))]
    else
      .ex 0 [DC.sl ((v1.getD 1 d0).ll)]
/-- loop.example/g00964/laws.toTokenS -/
noncomputable def E_laws_toTokenS (a : List DC) : Out :=
    if 0 ≤ (((a.getD 0 d0).ll).length : Int) ∧ (((a.getD 0 d0).ll).length : Int) < (LIM : Int) ∧ (((a.getD 0 d0).ll).length : Int) = (((a.getD 0 d0).ll).length : Int) ∧ 32 ≤ 1024 ∧ 0 < 3 then
      Out.andThenB (Loop E_laws_toTokenSL1 [DC.sl ((a.getD 0 d0).ll), DC.sl (List.replicate (((a.getD 0 d0).ll).length : Int).toNat [DC.i 0, DC.s [], DC.i 0]), DC.i (0 : Int)]) 0 fun v4 =>
      .ret [DC.sl ((v4.getD 0 d0).ll)]
    else
      .fail
theorem eq_laws_toTokenS (a : List DC) : r_laws_toTokenS a = E_laws_toTokenS a := (Run_eq cfg 12 h_laws_toTokenS a).trans (by kernel_rfl)
noncomputable def E_spec_ShortTextL1 : List DC → Out := fun v1 =>
    if (decide ((v1.getD 2 d0).ii < (((v1.getD 0 d0).ll).length : Int))) = true then
      Out.andThenB (if 53 = 53 ∧ 0 ≤ (v1.getD 2 d0).ii ∧ (v1.getD 2 d0).ii < (((v1.getD 0 d0).ll).length : Int) then
          (r_spec_TokenOk [DC.i (((((v1.getD 0 d0).ll).getD ((v1.getD 2 d0).ii).toNat []).getD 0 d0).ii), DC.s (((((v1.getD 0 d0).ll).getD ((v1.getD 2 d0).ii).toNat []).getD 1 d0).ss), DC.i (((((v1.getD 0 d0).ll).getD ((v1.getD 2 d0).ii).toNat []).getD 2 d0).ii)]).bindR fun r2 =>
          if (!((r2.getD 0 d0).bb)) = true then
            .ret [DC.s ([] : List UInt8)]
          else
            Out.andThen (if (decide ((v1.getD 2 d0).ii > (0 : Int))) = true then
                if 53 = 53 ∧ 0 ≤ (IntKind.i64.wrap ((v1.getD 2 d0).ii - (1 : Int))) ∧ (IntKind.i64.wrap ((v1.getD 2 d0).ii - (1 : Int))) < (((v1.getD 0 d0).ll).length : Int) then
                  if 53 = 53 ∧ 0 ≤ (v1.getD 2 d0).ii ∧ (v1.getD 2 d0).ii < (((v1.getD 0 d0).ll).length : Int) then
                    (r_spec_Apart [DC.i (((((v1.getD 0 d0).ll).getD (IntKind.i64.wrap ((v1.getD 2 d0).ii - (1 : Int))).toNat []).getD 0 d0).ii), DC.s (((((v1.getD 0 d0).ll).getD (IntKind.i64.wrap ((v1.getD 2 d0).ii - (1 : Int))).toNat []).getD 1 d0).ss), DC.i (((((v1.getD 0 d0).ll).getD (IntKind.i64.wrap ((v1.getD 2 d0).ii - (1 : Int))).toNat []).getD 2 d0).ii), DC.i (((((v1.getD 0 d0).ll).getD ((v1.getD 2 d0).ii).toNat []).getD 0 d0).ii), DC.s (((((v1.getD 0 d0).ll).getD ((v1.getD 2 d0).ii).toNat []).getD 1 d0).ss), DC.i (((((v1.getD 0 d0).ll).getD ((v1.getD 2 d0).ii).toNat []).getD 2 d0).ii)]).bindR fun r3 =>
                    .norm [DC.sl ((v1.getD 0 d0).ll), DC.sl ((v1.getD 1 d0).ll), DC.i ((v1.getD 2 d0).ii), DC.b ((r3.getD 0 d0).bb)]
                  else
                    .fail
                else
                  .fail
              else
                .norm [DC.sl ((v1.getD 0 d0).ll), DC.sl ((v1.getD 1 d0).ll), DC.i ((v1.getD 2 d0).ii), DC.b false]) fun v4 =>
            Out.andThen (if (v4.getD 3 d0).bb = true then
                if ((v4.getD 1 d0).ll).length + [[DC.i (32 : Int)]].length < LIM then
                  .norm [DC.sl ((v4.getD 0 d0).ll), DC.sl (((v4.getD 1 d0).ll) ++ [[DC.i (32 : Int)]]), DC.i ((v4.getD 2 d0).ii)]
                else
                  .fail
              else
                .norm [DC.sl ((v4.getD 0 d0).ll), DC.sl ((v4.getD 1 d0).ll), DC.i ((v4.getD 2 d0).ii)]) fun v5 =>
            if 53 = 53 ∧ 0 ≤ (v5.getD 2 d0).ii ∧ (v5.getD 2 d0).ii < (((v5.getD 0 d0).ll).length : Int) then
              (r_spec_TokenText [DC.i (((((v5.getD 0 d0).ll).getD ((v5.getD 2 d0).ii).toNat []).getD 0 d0).ii), DC.s (((((v5.getD 0 d0).ll).getD ((v5.getD 2 d0).ii).toNat []).getD 1 d0).ss), DC.i (((((v5.getD 0 d0).ll).getD ((v5.getD 2 d0).ii).toNat []).getD 2 d0).ii)]).bindR fun r6 =>
              if ((v5.getD 1 d0).ll).length + (bytesRow ((r6.getD 0 d0).ss)).length < LIM then
                if (decide (((((v5.getD 1 d0).ll) ++ (bytesRow ((r6.getD 0 d0).ss))).length : Int) > (12000 : Int))) = true then
                  .ret [DC.s ([] : List UInt8)]
                else
                  .norm [DC.sl ((v5.getD 0 d0).ll), DC.sl (((v5.getD 1 d0).ll) ++ (bytesRow ((r6.getD 0 d0).ss))), DC.i ((v5.getD 2 d0).ii)]
              else
                .fail
            else
              .fail
        else
          .fail) 1 fun v7 =>
      .norm [DC.sl ((v7.getD 0 d0).ll), DC.sl ((v7.getD 1 d0).ll), DC.i (IntKind.i64.wrap ((v7.getD 2 d0).ii + (1 : Int)))]
    else
      .ex 0 [DC.sl ((v1.getD 1 d0).ll)]
/-- loop.example/g00964/spec.ShortText -/
noncomputable def E_spec_ShortText (a : List DC) : Out :=
    if (decide ((((a.getD 0 d0).ll).length : Int) > (2500 : Int))) = true then
      .ret [DC.s ([] : List UInt8)]
    else
      Out.andThenB (Loop E_spec_ShortTextL1 [DC.sl ((a.getD 0 d0).ll), DC.sl [], DC.i (0 : Int)]) 0 fun v8 =>
      .ret [DC.s (rowBytes ((v8.getD 0 d0).ll))]
theorem eq_spec_ShortText (a : List DC) : r_spec_ShortText a = E_spec_ShortText a := (Run_eq cfg 11 h_spec_ShortText a).trans (by kernel_rfl)
noncomputable def E_impl_ShortTextL1 : List DC → Out := fun v1 =>
    if (decide ((v1.getD 4 d0).ii < (v1.getD 3 d0).ii)) = true then
      Out.andThenB (if 53 = 53 ∧ 0 ≤ (v1.getD 4 d0).ii ∧ (v1.getD 4 d0).ii < (((v1.getD 2 d0).ll).length : Int) then
          (r_impl_TokenOk [DC.i (((((v1.getD 2 d0).ll).getD ((v1.getD 4 d0).ii).toNat []).getD 0 d0).ii), DC.s (((((v1.getD 2 d0).ll).getD ((v1.getD 4 d0).ii).toNat []).getD 1 d0).ss), DC.i (((((v1.getD 2 d0).ll).getD ((v1.getD 4 d0).ii).toNat []).getD 2 d0).ii)]).bindR fun r2 =>
          if (!((r2.getD 0 d0).bb)) = true then
            .ret [DC.s ([] : List UInt8)]
          else
            Out.andThen (if (decide ((v1.getD 4 d0).ii > (0 : Int))) = true then
                if 53 = 53 ∧ 0 ≤ (IntKind.i64.wrap ((v1.getD 4 d0).ii - (1 : Int))) ∧ (IntKind.i64.wrap ((v1.getD 4 d0).ii - (1 : Int))) < (((v1.getD 0 d0).ll).length : Int) then
                  (r_impl_Apart [DC.i (((((v1.getD 0 d0).ll).getD (IntKind.i64.wrap ((v1.getD 4 d0).ii - (1 : Int))).toNat []).getD 0 d0).ii), DC.s (((((v1.getD 0 d0).ll).getD (IntKind.i64.wrap ((v1.getD 4 d0).ii - (1 : Int))).toNat []).getD 1 d0).ss), DC.i (((((v1.getD 0 d0).ll).getD (IntKind.i64.wrap ((v1.getD 4 d0).ii - (1 : Int))).toNat []).getD 2 d0).ii), DC.i (((((v1.getD 2 d0).ll).getD ((v1.getD 4 d0).ii).toNat []).getD 0 d0).ii), DC.s (((((v1.getD 2 d0).ll).getD ((v1.getD 4 d0).ii).toNat []).getD 1 d0).ss), DC.i (((((v1.getD 2 d0).ll).getD ((v1.getD 4 d0).ii).toNat []).getD 2 d0).ii)]).bindR fun r3 =>
                  .norm [DC.sl ((v1.getD 0 d0).ll), DC.sl ((v1.getD 1 d0).ll), DC.sl ((v1.getD 2 d0).ll), DC.i ((v1.getD 3 d0).ii), DC.i ((v1.getD 4 d0).ii), DC.b ((r3.getD 0 d0).bb), DC.i (((((v1.getD 2 d0).ll).getD ((v1.getD 4 d0).ii).toNat []).getD 0 d0).ii), DC.s (((((v1.getD 2 d0).ll).getD ((v1.getD 4 d0).ii).toNat []).getD 1 d0).ss), DC.i (((((v1.getD 2 d0).ll).getD ((v1.getD 4 d0).ii).toNat []).getD 2 d0).ii)]
                else
                  .fail
              else
                .norm [DC.sl ((v1.getD 0 d0).ll), DC.sl ((v1.getD 1 d0).ll), DC.sl ((v1.getD 2 d0).ll), DC.i ((v1.getD 3 d0).ii), DC.i ((v1.getD 4 d0).ii), DC.b false, DC.i (((((v1.getD 2 d0).ll).getD ((v1.getD 4 d0).ii).toNat []).getD 0 d0).ii), DC.s (((((v1.getD 2 d0).ll).getD ((v1.getD 4 d0).ii).toNat []).getD 1 d0).ss), DC.i (((((v1.getD 2 d0).ll).getD ((v1.getD 4 d0).ii).toNat []).getD 2 d0).ii)]) fun v4 =>
            Out.andThen (if (v4.getD 5 d0).bb = true then
                if ((v4.getD 1 d0).ll).length + [[DC.i (32 : Int)]].length < LIM then
                  .norm [DC.sl ((v4.getD 0 d0).ll), DC.sl (((v4.getD 1 d0).ll) ++ [[DC.i (32 : Int)]]), DC.sl ((v4.getD 2 d0).ll), DC.i ((v4.getD 3 d0).ii), DC.i ((v4.getD 4 d0).ii), DC.i ((v4.getD 6 d0).ii), DC.s ((v4.getD 7 d0).ss), DC.i ((v4.getD 8 d0).ii)]
                else
                  .fail
              else
                .norm [DC.sl ((v4.getD 0 d0).ll), DC.sl ((v4.getD 1 d0).ll), DC.sl ((v4.getD 2 d0).ll), DC.i ((v4.getD 3 d0).ii), DC.i ((v4.getD 4 d0).ii), DC.i ((v4.getD 6 d0).ii), DC.s ((v4.getD 7 d0).ss), DC.i ((v4.getD 8 d0).ii)]) fun v5 =>
            (r_impl_TokenText [DC.i ((v5.getD 5 d0).ii), DC.s ((v5.getD 6 d0).ss), DC.i ((v5.getD 7 d0).ii)]).bindR fun r6 =>
            if ((v5.getD 1 d0).ll).length + (bytesRow ((r6.getD 0 d0).ss)).length < LIM then
              .norm [DC.sl ((v5.getD 0 d0).ll), DC.sl (((v5.getD 1 d0).ll) ++ (bytesRow ((r6.getD 0 d0).ss))), DC.sl ((v5.getD 2 d0).ll), DC.i ((v5.getD 3 d0).ii), DC.i ((v5.getD 4 d0).ii)]
            else
              .fail
        else
          .fail) 1 fun v7 =>
      .norm [DC.sl ((v7.getD 0 d0).ll), DC.sl ((v7.getD 1 d0).ll), DC.sl ((v7.getD 2 d0).ll), DC.i ((v7.getD 3 d0).ii), DC.i (IntKind.i64.wrap ((v7.getD 4 d0).ii + (1 : Int)))]
    else
      .ex 0 [DC.sl ((v1.getD 1 d0).ll)]
/-- loop.example/g00964/impl.ShortText -/
noncomputable def E_impl_ShortText (a : List DC) : Out :=
    if (decide ((((a.getD 0 d0).ll).length : Int) > (2500 : Int))) = true then
      .ret [DC.s ([] : List UInt8)]
    else
      Out.andThenB (Loop E_impl_ShortTextL1 [DC.sl ((a.getD 0 d0).ll), DC.sl [], DC.sl ((a.getD 0 d0).ll), DC.i (((a.getD 0 d0).ll).length : Int), DC.i (0 : Int)]) 0 fun v8 =>
      if (decide ((((v8.getD 0 d0).ll).length : Int) > (12000 : Int))) = true then
        .ret [DC.s ([] : List UInt8)]
      else
        .ret [DC.s (rowBytes ((v8.getD 0 d0).ll))]
theorem eq_impl_ShortText (a : List DC) : r_impl_ShortText a = E_impl_ShortText a := (Run_eq cfg 13 h_impl_ShortText a).trans (by kernel_rfl)
noncomputable def E_laws_eqTokenSL1 : List DC → Out := fun v1 =>
    if (decide ((v1.getD 2 d0).ii < (((v1.getD 0 d0).ll).length : Int))) = true then
      Out.andThenB (if 53 = 53 ∧ 0 ≤ (v1.getD 2 d0).ii ∧ (v1.getD 2 d0).ii < (((v1.getD 0 d0).ll).length : Int) then
          if 53 = 53 ∧ 0 ≤ (v1.getD 2 d0).ii ∧ (v1.getD 2 d0).ii < (((v1.getD 1 d0).ll).length : Int) then
            (r_laws_eqToken [DC.i (((((v1.getD 0 d0).ll).getD ((v1.getD 2 d0).ii).toNat []).getD 0 d0).ii), DC.s (((((v1.getD 0 d0).ll).getD ((v1.getD 2 d0).ii).toNat []).getD 1 d0).ss), DC.i (((((v1.getD 0 d0).ll).getD ((v1.getD 2 d0).ii).toNat []).getD 2 d0).ii), DC.i (((((v1.getD 1 d0).ll).getD ((v1.getD 2 d0).ii).toNat []).getD 0 d0).ii), DC.s (((((v1.getD 1 d0).ll).getD ((v1.getD 2 d0).ii).toNat []).getD 1 d0).ss), DC.i (((((v1.getD 1 d0).ll).getD ((v1.getD 2 d0).ii).toNat []).getD 2 d0).ii)]).bindR fun r2 =>
            if (!((r2.getD 0 d0).bb)) = true then
              .ret [DC.b false]
            else
              .norm [DC.sl ((v1.getD 0 d0).ll), DC.sl ((v1.getD 1 d0).ll), DC.i ((v1.getD 2 d0).ii)]
          else
            .fail
        else
          .fail) 1 fun v3 =>
      .norm [DC.sl ((v3.getD 0 d0).ll), DC.sl ((v3.getD 1 d0).ll), DC.i (IntKind.i64.wrap ((v3.getD 2 d0).ii + (1 : Int)))]
    else
      .ex 0 []
/-- loop.example/g00964/laws.eqTokenS -/
noncomputable def E_laws_eqTokenS (a : List DC) : Out :=
    if ((((a.getD 0 d0).ll).length : Int) != (((a.getD 1 d0).ll).length : Int)) = true then
      .ret [DC.b false]
    else
      Out.andThenB (Loop E_laws_eqTokenSL1 [DC.sl ((a.getD 0 d0).ll), DC.sl ((a.getD 1 d0).ll), DC.i (0 : Int)]) 0 fun v4 =>
      .ret [DC.b true]
theorem eq_laws_eqTokenS (a : List DC) : r_laws_eqTokenS a = E_laws_eqTokenS a := (Run_eq cfg 14 h_laws_eqTokenS a).trans (by kernel_rfl)
noncomputable def E_laws_szJsonSL1 : List DC → Out := fun v1 =>
    if (decide ((v1.getD 2 d0).ii < (((v1.getD 0 d0).ll).length : Int))) = true then
      Out.andThenB (if 25 = 25 ∧ 0 ≤ (v1.getD 2 d0).ii ∧ (v1.getD 2 d0).ii < (((v1.getD 0 d0).ll).length : Int) then
          (r_laws_szJson [DC.i (((((v1.getD 0 d0).ll).getD ((v1.getD 2 d0).ii).toNat []).getD 0 d0).ii), DC.s (((((v1.getD 0 d0).ll).getD ((v1.getD 2 d0).ii).toNat []).getD 1 d0).ss), DC.sl (((((v1.getD 0 d0).ll).getD ((v1.getD 2 d0).ii).toNat []).getD 2 d0).ll), DC.sl (((((v1.getD 0 d0).ll).getD ((v1.getD 2 d0).ii).toNat []).getD 3 d0).ll), DC.i ((v1.getD 1 d0).ii)]).bindR fun r2 =>
          if (decide ((r2.getD 0 d0).ii < (0 : Int))) = true then
            .ret [DC.i (-1 : Int)]
          else
            .norm [DC.sl ((v1.getD 0 d0).ll), DC.i ((r2.getD 0 d0).ii), DC.i ((v1.getD 2 d0).ii)]
        else
          .fail) 1 fun v3 =>
      .norm [DC.sl ((v3.getD 0 d0).ll), DC.i ((v3.getD 1 d0).ii), DC.i (IntKind.i64.wrap ((v3.getD 2 d0).ii + (1 : Int)))]
    else
      .ex 0 [DC.i ((v1.getD 1 d0).ii)]
/-- loop.example/g00964/laws.szJsonS -/
noncomputable def E_laws_szJsonS (a : List DC) : Out :=
    if (decide ((IntKind.i64.wrap ((a.getD 1 d0).ii - (((a.getD 0 d0).ll).length : Int))) < (0 : Int))) = true then
      .ret [DC.i (-1 : Int)]
    else
      Out.andThenB (Loop E_laws_szJsonSL1 [DC.sl ((a.getD 0 d0).ll), DC.i (IntKind.i64.wrap ((a.getD 1 d0).ii - (((a.getD 0 d0).ll).length : Int))), DC.i (0 : Int)]) 0 fun v4 =>
      .ret [DC.i ((v4.getD 0 d0).ii)]
theorem eq_laws_szJsonS (a : List DC) : r_laws_szJsonS a = E_laws_szJsonS a := (Run_eq cfg 15 h_laws_szJsonS a).trans (by kernel_rfl)
noncomputable def E_laws_szStringSL1 : List DC → Out := fun v1 =>
    if (decide ((v1.getD 2 d0).ii < (((v1.getD 0 d0).ll).length : Int))) = true then
      Out.andThenB (if 9 = 9 ∧ 0 ≤ (v1.getD 2 d0).ii ∧ (v1.getD 2 d0).ii < (((v1.getD 0 d0).ll).length : Int) then
          if (decide ((IntKind.i64.wrap ((v1.getD 1 d0).ii - ((((((v1.getD 0 d0).ll).getD ((v1.getD 2 d0).ii).toNat []).getD 0 d0).ss).length : Int))) < (0 : Int))) = true then
            .ret [DC.i (-1 : Int)]
          else
            .norm [DC.sl ((v1.getD 0 d0).ll), DC.i (IntKind.i64.wrap ((v1.getD 1 d0).ii - ((((((v1.getD 0 d0).ll).getD ((v1.getD 2 d0).ii).toNat []).getD 0 d0).ss).length : Int))), DC.i ((v1.getD 2 d0).ii)]
        else
          .fail) 1 fun v2 =>
      .norm [DC.sl ((v2.getD 0 d0).ll), DC.i ((v2.getD 1 d0).ii), DC.i (IntKind.i64.wrap ((v2.getD 2 d0).ii + (1 : Int)))]
    else
      .ex 0 [DC.i ((v1.getD 1 d0).ii)]
/-- loop.example/g00964/laws.szStringS -/
noncomputable def E_laws_szStringS (a : List DC) : Out :=
    if (decide ((IntKind.i64.wrap ((a.getD 1 d0).ii - (((a.getD 0 d0).ll).length : Int))) < (0 : Int))) = true then
      .ret [DC.i (-1 : Int)]
    else
      Out.andThenB (Loop E_laws_szStringSL1 [DC.sl ((a.getD 0 d0).ll), DC.i (IntKind.i64.wrap ((a.getD 1 d0).ii - (((a.getD 0 d0).ll).length : Int))), DC.i (0 : Int)]) 0 fun v3 =>
      .ret [DC.i ((v3.getD 0 d0).ii)]
theorem eq_laws_szStringS (a : List DC) : r_laws_szStringS a = E_laws_szStringS a := (Run_eq cfg 16 h_laws_szStringS a).trans (by kernel_rfl)
noncomputable def E_laws_toJsonSL1 : List DC → Out := fun v1 =>
    if (decide ((v1.getD 2 d0).ii < (((v1.getD 0 d0).ll).length : Int))) = true then
      Out.andThenB (if 25 = 25 ∧ 0 ≤ (v1.getD 2 d0).ii ∧ (v1.getD 2 d0).ii < (((v1.getD 0 d0).ll).length : Int) then
          (r_laws_toJson [DC.i (((((v1.getD 0 d0).ll).getD ((v1.getD 2 d0).ii).toNat []).getD 0 d0).ii), DC.s (((((v1.getD 0 d0).ll).getD ((v1.getD 2 d0).ii).toNat []).getD 1 d0).ss), DC.sl (((((v1.getD 0 d0).ll).getD ((v1.getD 2 d0).ii).toNat []).getD 2 d0).ll), DC.sl (((((v1.getD 0 d0).ll).getD ((v1.getD 2 d0).ii).toNat []).getD 3 d0).ll)]).bindR fun r2 =>
          if 30 = 30 ∧ 0 ≤ (v1.getD 2 d0).ii ∧ (v1.getD 2 d0).ii < (((v1.getD 1 d0).ll).length : Int) then
            .norm [DC.sl ((v1.getD 0 d0).ll), DC.sl (((v1.getD 1 d0).ll).set (((v1.getD 2 d0).ii).toNat) (setRunD (((v1.getD 1 d0).ll).getD (((v1.getD 2 d0).ii).toNat) []) 0 [DC.i ((r2.getD 0 d0).ii), DC.s ((r2.getD 1 d0).ss), DC.sl ((r2.getD 2 d0).ll), DC.sl ((r2.getD 3 d0).ll)])), DC.i ((v1.getD 2 d0).ii)]
          else
            .fail
        else
          .fail) 1 fun v3 =>
      .norm [DC.sl ((v3.getD 0 d0).ll), DC.sl ((v3.getD 1 d0).ll), DC.i (IntKind.i64.wrap ((v3.getD 2 d0).ii + (1 : Int)))]
    else
      .ex 0 [DC.sl ((v1.getD 1 d0).ll)]
/-- loop.example/g00964/laws.toJsonS -/
noncomputable def E_laws_toJsonS (a : List DC) : Out :=
    if 0 ≤ (((a.getD 0 d0).ll).length : Int) ∧ (((a.getD 0 d0).ll).length : Int) < (LIM : Int) ∧ (((a.getD 0 d0).ll).length : Int) = (((a.getD 0 d0).ll).length : Int) ∧ 72 ≤ 1024 ∧ 0 < 4 then
      Out.andThenB (Loop E_laws_toJsonSL1 [DC.sl ((a.getD 0 d0).ll), DC.sl (List.replicate (((a.getD 0 d0).ll).length : Int).toNat [DC.i 0, DC.s [], DC.sl [], DC.sl []]), DC.i (0 : Int)]) 0 fun v4 =>
      .ret [DC.sl ((v4.getD 0 d0).ll)]
    else
      .fail
theorem eq_laws_toJsonS (a : List DC) : r_laws_toJsonS a = E_laws_toJsonS a := (Run_eq cfg 18 h_laws_toJsonS a).trans (by kernel_rfl)
noncomputable def E_laws_toStringSL1 : List DC → Out := fun v1 =>
    if (decide ((v1.getD 2 d0).ii < (((v1.getD 0 d0).ll).length : Int))) = true then
      Out.andThenB (if 9 = 9 ∧ 0 ≤ (v1.getD 2 d0).ii ∧ (v1.getD 2 d0).ii < (((v1.getD 0 d0).ll).length : Int) then
          if 9 = 9 ∧ 0 ≤ (v1.getD 2 d0).ii ∧ (v1.getD 2 d0).ii < (((v1.getD 1 d0).ll).length : Int) then
            .norm [DC.sl ((v1.getD 0 d0).ll), DC.sl (((v1.getD 1 d0).ll).set (((v1.getD 2 d0).ii).toNat) (setRunD (((v1.getD 1 d0).ll).getD (((v1.getD 2 d0).ii).toNat) []) 0 [DC.s (((((v1.getD 0 d0).ll).getD ((v1.getD 2 d0).ii).toNat []).getD 0 d0).ss)])), DC.i ((v1.getD 2 d0).ii)]
          else
            .fail
        else
          .fail) 1 fun v2 =>
      .norm [DC.sl ((v2.getD 0 d0).ll), DC.sl ((v2.getD 1 d0).ll), DC.i (IntKind.i64.wrap ((v2.getD 2 d0).ii + (1 : Int)))]
    else
      .ex 0 [DC.sl ((v1.getD 1 d0).ll)]
/-- loop.example/g00964/laws.toStringS -/
noncomputable def E_laws_toStringS (a : List DC) : Out :=
    if 0 ≤ (((a.getD 0 d0).ll).length : Int) ∧ (((a.getD 0 d0).ll).length : Int) < (LIM : Int) ∧ (((a.getD 0 d0).ll).length : Int) = (((a.getD 0 d0).ll).length : Int) ∧ 16 ≤ 1024 ∧ 0 < 1 then
      Out.andThenB (Loop E_laws_toStringSL1 [DC.sl ((a.getD 0 d0).ll), DC.sl (List.replicate (((a.getD 0 d0).ll).length : Int).toNat [DC.s []]), DC.i (0 : Int)]) 0 fun v3 =>
      .ret [DC.sl ((v3.getD 0 d0).ll)]
    else
      .fail
theorem eq_laws_toStringS (a : List DC) : r_laws_toStringS a = E_laws_toStringS a := (Run_eq cfg 19 h_laws_toStringS a).trans (by kernel_rfl)
noncomputable def E_spec_l22RightL1 : List DC → Out := fun v14 =>
    if (decide ((v14.getD 1 d0).ii < (((v14.getD 4 d0).ll).length : Int))) = true then
      Out.andThenB (Out.andThen (if ((v14.getD 2 d0).ii == (7 : Int)) = true then
            if 9 = 9 ∧ 0 ≤ (v14.getD 1 d0).ii ∧ (v14.getD 1 d0).ii < (((v14.getD 5 d0).ll).length : Int) then
              (r_spec_Escaped [DC.s (((((v14.getD 5 d0).ll).getD ((v14.getD 1 d0).ii).toNat []).getD 0 d0).ss)]).bindR fun r15 =>
              if ((r15.getD 0 d0).ss == ([] : List UInt8)) = true then
                .norm [DC.i ((v14.getD 0 d0).ii), DC.i ((v14.getD 1 d0).ii), DC.b true, DC.i ((v14.getD 2 d0).ii), DC.s ((v14.getD 3 d0).ss), DC.sl ((v14.getD 4 d0).ll), DC.sl ((v14.getD 5 d0).ll)]
              else
                if 30 = 30 ∧ 0 ≤ (v14.getD 1 d0).ii ∧ (v14.getD 1 d0).ii < (((v14.getD 4 d0).ll).length : Int) then
                  (r_spec_l22Right [DC.i (((((v14.getD 4 d0).ll).getD ((v14.getD 1 d0).ii).toNat []).getD 0 d0).ii), DC.s (((((v14.getD 4 d0).ll).getD ((v14.getD 1 d0).ii).toNat []).getD 1 d0).ss), DC.sl (((((v14.getD 4 d0).ll).getD ((v14.getD 1 d0).ii).toNat []).getD 2 d0).ll), DC.sl (((((v14.getD 4 d0).ll).getD ((v14.getD 1 d0).ii).toNat []).getD 3 d0).ll), DC.i (IntKind.i64.wrap ((v14.getD 0 d0).ii - (1 : Int)))]).bindR fun r16 =>
                  .norm [DC.i ((v14.getD 0 d0).ii), DC.i ((v14.getD 1 d0).ii), DC.b (!((r16.getD 0 d0).bb)), DC.i ((v14.getD 2 d0).ii), DC.s ((v14.getD 3 d0).ss), DC.sl ((v14.getD 4 d0).ll), DC.sl ((v14.getD 5 d0).ll)]
                else
                  .fail
            else
              .fail
          else
            if 30 = 30 ∧ 0 ≤ (v14.getD 1 d0).ii ∧ (v14.getD 1 d0).ii < (((v14.getD 4 d0).ll).length : Int) then
              (r_spec_l22Right [DC.i (((((v14.getD 4 d0).ll).getD ((v14.getD 1 d0).ii).toNat []).getD 0 d0).ii), DC.s (((((v14.getD 4 d0).ll).getD ((v14.getD 1 d0).ii).toNat []).getD 1 d0).ss), DC.sl (((((v14.getD 4 d0).ll).getD ((v14.getD 1 d0).ii).toNat []).getD 2 d0).ll), DC.sl (((((v14.getD 4 d0).ll).getD ((v14.getD 1 d0).ii).toNat []).getD 3 d0).ll), DC.i (IntKind.i64.wrap ((v14.getD 0 d0).ii - (1 : Int)))]).bindR fun r17 =>
              .norm [DC.i ((v14.getD 0 d0).ii), DC.i ((v14.getD 1 d0).ii), DC.b (!((r17.getD 0 d0).bb)), DC.i ((v14.getD 2 d0).ii), DC.s ((v14.getD 3 d0).ss), DC.sl ((v14.getD 4 d0).ll), DC.sl ((v14.getD 5 d0).ll)]
            else
              .fail) fun v18 =>
        if (v18.getD 2 d0).bb = true then
          .ret [DC.b false]
        else
          .norm [DC.i ((v18.getD 0 d0).ii), DC.i ((v18.getD 1 d0).ii), DC.i ((v18.getD 3 d0).ii), DC.s ((v18.getD 4 d0).ss), DC.sl ((v18.getD 5 d0).ll), DC.sl ((v18.getD 6 d0).ll)]) 2 fun v19 =>
      .norm [DC.i ((v19.getD 0 d0).ii), DC.i (IntKind.i64.wrap ((v19.getD 1 d0).ii + (1 : Int))), DC.i ((v19.getD 2 d0).ii), DC.s ((v19.getD 3 d0).ss), DC.sl ((v19.getD 4 d0).ll), DC.sl ((v19.getD 5 d0).ll)]
    else
      .ex 1 []
/-- loop.example/g00964/spec.l22Right -/
noncomputable def E_spec_l22Right (a : List DC) : Out :=
    Out.andThen (if ((a.getD 0 d0).ii == (6 : Int)) = true then
        .norm [DC.i ((a.getD 4 d0).ii), DC.b true, DC.i ((a.getD 0 d0).ii), DC.s ((a.getD 1 d0).ss), DC.sl ((a.getD 2 d0).ll), DC.sl ((a.getD 3 d0).ll)]
      else
        .norm [DC.i ((a.getD 4 d0).ii), DC.b ((a.getD 0 d0).ii == (7 : Int)), DC.i ((a.getD 0 d0).ii), DC.s ((a.getD 1 d0).ss), DC.sl ((a.getD 2 d0).ll), DC.sl ((a.getD 3 d0).ll)]) fun v1 =>
    Out.andThenB (Out.andThen (if ((v1.getD 2 d0).ii == (1 : Int)) = true then
          .norm [DC.i ((v1.getD 0 d0).ii), DC.b ((v1.getD 1 d0).bb), DC.i ((v1.getD 2 d0).ii), DC.b ((v1.getD 2 d0).ii == (1 : Int)), DC.i ((v1.getD 2 d0).ii), DC.s ((v1.getD 3 d0).ss), DC.sl ((v1.getD 4 d0).ll), DC.sl ((v1.getD 5 d0).ll)]
        else
          Out.andThen (if ((v1.getD 2 d0).ii == (2 : Int)) = true then
              .norm [DC.i ((v1.getD 0 d0).ii), DC.b ((v1.getD 1 d0).bb), DC.i ((v1.getD 2 d0).ii), DC.b ((v1.getD 2 d0).ii == (2 : Int)), DC.i ((v1.getD 2 d0).ii), DC.s ((v1.getD 3 d0).ss), DC.sl ((v1.getD 4 d0).ll), DC.sl ((v1.getD 5 d0).ll)]
            else
              Out.andThen (if ((v1.getD 2 d0).ii == (3 : Int)) = true then
                  .norm [DC.i ((v1.getD 0 d0).ii), DC.b ((v1.getD 1 d0).bb), DC.i ((v1.getD 2 d0).ii), DC.b ((v1.getD 2 d0).ii == (3 : Int)), DC.i ((v1.getD 2 d0).ii), DC.s ((v1.getD 3 d0).ss), DC.sl ((v1.getD 4 d0).ll), DC.sl ((v1.getD 5 d0).ll)]
                else
                  Out.andThen (if ((v1.getD 2 d0).ii == (6 : Int)) = true then
                      .norm [DC.i ((v1.getD 0 d0).ii), DC.b ((v1.getD 1 d0).bb), DC.i ((v1.getD 2 d0).ii), DC.b ((v1.getD 2 d0).ii == (6 : Int)), DC.i ((v1.getD 2 d0).ii), DC.s ((v1.getD 3 d0).ss), DC.sl ((v1.getD 4 d0).ll), DC.sl ((v1.getD 5 d0).ll)]
                    else
                      .norm [DC.i ((v1.getD 0 d0).ii), DC.b ((v1.getD 1 d0).bb), DC.i ((v1.getD 2 d0).ii), DC.b ((v1.getD 2 d0).ii == (7 : Int)), DC.i ((v1.getD 2 d0).ii), DC.s ((v1.getD 3 d0).ss), DC.sl ((v1.getD 4 d0).ll), DC.sl ((v1.getD 5 d0).ll)]) fun v2 =>
                  .norm [DC.i ((v2.getD 0 d0).ii), DC.b ((v2.getD 1 d0).bb), DC.i ((v2.getD 2 d0).ii), DC.b ((v2.getD 3 d0).bb), DC.i ((v2.getD 4 d0).ii), DC.s ((v2.getD 5 d0).ss), DC.sl ((v2.getD 6 d0).ll), DC.sl ((v2.getD 7 d0).ll)]) fun v3 =>
              .norm [DC.i ((v3.getD 0 d0).ii), DC.b ((v3.getD 1 d0).bb), DC.i ((v3.getD 2 d0).ii), DC.b ((v3.getD 3 d0).bb), DC.i ((v3.getD 4 d0).ii), DC.s ((v3.getD 5 d0).ss), DC.sl ((v3.getD 6 d0).ll), DC.sl ((v3.getD 7 d0).ll)]) fun v4 =>
          .norm [DC.i ((v4.getD 0 d0).ii), DC.b ((v4.getD 1 d0).bb), DC.i ((v4.getD 2 d0).ii), DC.b ((v4.getD 3 d0).bb), DC.i ((v4.getD 4 d0).ii), DC.s ((v4.getD 5 d0).ss), DC.sl ((v4.getD 6 d0).ll), DC.sl ((v4.getD 7 d0).ll)]) fun v5 =>
      Out.andThen (if (v5.getD 3 d0).bb = true then
          if (!((v5.getD 5 d0).ss == ([] : List UInt8))) = true then
            .ret [DC.b false]
          else
            .norm [DC.i ((v5.getD 0 d0).ii), DC.b ((v5.getD 1 d0).bb), DC.i ((v5.getD 4 d0).ii), DC.s ((v5.getD 5 d0).ss), DC.sl ((v5.getD 6 d0).ll), DC.sl ((v5.getD 7 d0).ll)]
        else
          Out.andThen (if ((v5.getD 2 d0).ii == (4 : Int)) = true then
              Out.andThen ((r_spec_IntOk [DC.s ((v5.getD 5 d0).ss)]).bindR fun r6 =>
                if (!((r6.getD 0 d0).bb)) = true then
                  (r_spec_FloatOk [DC.s ((v5.getD 5 d0).ss)]).bindR fun r7 =>
                  .norm [DC.i ((v5.getD 0 d0).ii), DC.b ((v5.getD 1 d0).bb), DC.b (!((r7.getD 0 d0).bb)), DC.i ((v5.getD 4 d0).ii), DC.s ((v5.getD 5 d0).ss), DC.sl ((v5.getD 6 d0).ll), DC.sl ((v5.getD 7 d0).ll)]
                else
                  .norm [DC.i ((v5.getD 0 d0).ii), DC.b ((v5.getD 1 d0).bb), DC.b false, DC.i ((v5.getD 4 d0).ii), DC.s ((v5.getD 5 d0).ss), DC.sl ((v5.getD 6 d0).ll), DC.sl ((v5.getD 7 d0).ll)]) fun v8 =>
              if (v8.getD 2 d0).bb = true then
                .ret [DC.b false]
              else
                .norm [DC.i ((v8.getD 0 d0).ii), DC.b ((v8.getD 1 d0).bb), DC.i ((v8.getD 3 d0).ii), DC.s ((v8.getD 4 d0).ss), DC.sl ((v8.getD 5 d0).ll), DC.sl ((v8.getD 6 d0).ll)]
            else
              if ((v5.getD 2 d0).ii == (5 : Int)) = true then
                (r_spec_Escaped [DC.s ((v5.getD 5 d0).ss)]).bindR fun r9 =>
                if ((r9.getD 0 d0).ss == ([] : List UInt8)) = true then
                  .ret [DC.b false]
                else
                  .norm [DC.i ((v5.getD 0 d0).ii), DC.b ((v5.getD 1 d0).bb), DC.i ((v5.getD 4 d0).ii), DC.s ((v5.getD 5 d0).ss), DC.sl ((v5.getD 6 d0).ll), DC.sl ((v5.getD 7 d0).ll)]
              else
                .ret [DC.b false]) fun v10 =>
          .norm [DC.i ((v10.getD 0 d0).ii), DC.b ((v10.getD 1 d0).bb), DC.i ((v10.getD 2 d0).ii), DC.s ((v10.getD 3 d0).ss), DC.sl ((v10.getD 4 d0).ll), DC.sl ((v10.getD 5 d0).ll)]) fun v11 =>
      .norm [DC.i ((v11.getD 0 d0).ii), DC.b ((v11.getD 1 d0).bb), DC.i ((v11.getD 2 d0).ii), DC.s ((v11.getD 3 d0).ss), DC.sl ((v11.getD 4 d0).ll), DC.sl ((v11.getD 5 d0).ll)]) 0 fun v12 =>
    Out.andThen (if (!((v12.getD 1 d0).bb)) = true then
        if (decide ((((v12.getD 4 d0).ll).length : Int) > (0 : Int))) = true then
          .norm [DC.i ((v12.getD 0 d0).ii), DC.b true, DC.i ((v12.getD 2 d0).ii), DC.s ((v12.getD 3 d0).ss), DC.sl ((v12.getD 4 d0).ll), DC.sl ((v12.getD 5 d0).ll)]
        else
          if ((v12.getD 2 d0).ii != (7 : Int)) = true then
            if (decide ((((v12.getD 5 d0).ll).length : Int) > (0 : Int))) = true then
              .norm [DC.i ((v12.getD 0 d0).ii), DC.b true, DC.i ((v12.getD 2 d0).ii), DC.s ((v12.getD 3 d0).ss), DC.sl ((v12.getD 4 d0).ll), DC.sl ((v12.getD 5 d0).ll)]
            else
              if ((v12.getD 2 d0).ii == (7 : Int)) = true then
                if ((((v12.getD 5 d0).ll).length : Int) != (((v12.getD 4 d0).ll).length : Int)) = true then
                  .norm [DC.i ((v12.getD 0 d0).ii), DC.b true, DC.i ((v12.getD 2 d0).ii), DC.s ((v12.getD 3 d0).ss), DC.sl ((v12.getD 4 d0).ll), DC.sl ((v12.getD 5 d0).ll)]
                else
                  if (v12.getD 1 d0).bb = true then
                    .norm [DC.i ((v12.getD 0 d0).ii), DC.b ((v12.getD 0 d0).ii == (0 : Int)), DC.i ((v12.getD 2 d0).ii), DC.s ((v12.getD 3 d0).ss), DC.sl ((v12.getD 4 d0).ll), DC.sl ((v12.getD 5 d0).ll)]
                  else
                    .norm [DC.i ((v12.getD 0 d0).ii), DC.b false, DC.i ((v12.getD 2 d0).ii), DC.s ((v12.getD 3 d0).ss), DC.sl ((v12.getD 4 d0).ll), DC.sl ((v12.getD 5 d0).ll)]
              else
                if (v12.getD 1 d0).bb = true then
                  .norm [DC.i ((v12.getD 0 d0).ii), DC.b ((v12.getD 0 d0).ii == (0 : Int)), DC.i ((v12.getD 2 d0).ii), DC.s ((v12.getD 3 d0).ss), DC.sl ((v12.getD 4 d0).ll), DC.sl ((v12.getD 5 d0).ll)]
                else
                  .norm [DC.i ((v12.getD 0 d0).ii), DC.b false, DC.i ((v12.getD 2 d0).ii), DC.s ((v12.getD 3 d0).ss), DC.sl ((v12.getD 4 d0).ll), DC.sl ((v12.getD 5 d0).ll)]
          else
            if ((v12.getD 2 d0).ii == (7 : Int)) = true then
              if ((((v12.getD 5 d0).ll).length : Int) != (((v12.getD 4 d0).ll).length : Int)) = true then
                .norm [DC.i ((v12.getD 0 d0).ii), DC.b true, DC.i ((v12.getD 2 d0).ii), DC.s ((v12.getD 3 d0).ss), DC.sl ((v12.getD 4 d0).ll), DC.sl ((v12.getD 5 d0).ll)]
              else
                if (v12.getD 1 d0).bb = true then
                  .norm [DC.i ((v12.getD 0 d0).ii), DC.b ((v12.getD 0 d0).ii == (0 : Int)), DC.i ((v12.getD 2 d0).ii), DC.s ((v12.getD 3 d0).ss), DC.sl ((v12.getD 4 d0).ll), DC.sl ((v12.getD 5 d0).ll)]
                else
                  .norm [DC.i ((v12.getD 0 d0).ii), DC.b false, DC.i ((v12.getD 2 d0).ii), DC.s ((v12.getD 3 d0).ss), DC.sl ((v12.getD 4 d0).ll), DC.sl ((v12.getD 5 d0).ll)]
            else
              if (v12.getD 1 d0).bb = true then
                .norm [DC.i ((v12.getD 0 d0).ii), DC.b ((v12.getD 0 d0).ii == (0 : Int)), DC.i ((v12.getD 2 d0).ii), DC.s ((v12.getD 3 d0).ss), DC.sl ((v12.getD 4 d0).ll), DC.sl ((v12.getD 5 d0).ll)]
              else
                .norm [DC.i ((v12.getD 0 d0).ii), DC.b false, DC.i ((v12.getD 2 d0).ii), DC.s ((v12.getD 3 d0).ss), DC.sl ((v12.getD 4 d0).ll), DC.sl ((v12.getD 5 d0).ll)]
      else
        if ((v12.getD 2 d0).ii != (7 : Int)) = true then
          if (decide ((((v12.getD 5 d0).ll).length : Int) > (0 : Int))) = true then
            .norm [DC.i ((v12.getD 0 d0).ii), DC.b true, DC.i ((v12.getD 2 d0).ii), DC.s ((v12.getD 3 d0).ss), DC.sl ((v12.getD 4 d0).ll), DC.sl ((v12.getD 5 d0).ll)]
          else
            if ((v12.getD 2 d0).ii == (7 : Int)) = true then
              if ((((v12.getD 5 d0).ll).length : Int) != (((v12.getD 4 d0).ll).length : Int)) = true then
                .norm [DC.i ((v12.getD 0 d0).ii), DC.b true, DC.i ((v12.getD 2 d0).ii), DC.s ((v12.getD 3 d0).ss), DC.sl ((v12.getD 4 d0).ll), DC.sl ((v12.getD 5 d0).ll)]
              else
                if (v12.getD 1 d0).bb = true then
                  .norm [DC.i ((v12.getD 0 d0).ii), DC.b ((v12.getD 0 d0).ii == (0 : Int)), DC.i ((v12.getD 2 d0).ii), DC.s ((v12.getD 3 d0).ss), DC.sl ((v12.getD 4 d0).ll), DC.sl ((v12.getD 5 d0).ll)]
                else
                  .norm [DC.i ((v12.getD 0 d0).ii), DC.b false, DC.i ((v12.getD 2 d0).ii), DC.s ((v12.getD 3 d0).ss), DC.sl ((v12.getD 4 d0).ll), DC.sl ((v12.getD 5 d0).ll)]
            else
              if (v12.getD 1 d0).bb = true then
                .norm [DC.i ((v12.getD 0 d0).ii), DC.b ((v12.getD 0 d0).ii == (0 : Int)), DC.i ((v12.getD 2 d0).ii), DC.s ((v12.getD 3 d0).ss), DC.sl ((v12.getD 4 d0).ll), DC.sl ((v12.getD 5 d0).ll)]
              else
                .norm [DC.i ((v12.getD 0 d0).ii), DC.b false, DC.i ((v12.getD 2 d0).ii), DC.s ((v12.getD 3 d0).ss), DC.sl ((v12.getD 4 d0).ll), DC.sl ((v12.getD 5 d0).ll)]
        else
          if ((v12.getD 2 d0).ii == (7 : Int)) = true then
            if ((((v12.getD 5 d0).ll).length : Int) != (((v12.getD 4 d0).ll).length : Int)) = true then
              .norm [DC.i ((v12.getD 0 d0).ii), DC.b true, DC.i ((v12.getD 2 d0).ii), DC.s ((v12.getD 3 d0).ss), DC.sl ((v12.getD 4 d0).ll), DC.sl ((v12.getD 5 d0).ll)]
            else
              if (v12.getD 1 d0).bb = true then
                .norm [DC.i ((v12.getD 0 d0).ii), DC.b ((v12.getD 0 d0).ii == (0 : Int)), DC.i ((v12.getD 2 d0).ii), DC.s ((v12.getD 3 d0).ss), DC.sl ((v12.getD 4 d0).ll), DC.sl ((v12.getD 5 d0).ll)]
              else
                .norm [DC.i ((v12.getD 0 d0).ii), DC.b false, DC.i ((v12.getD 2 d0).ii), DC.s ((v12.getD 3 d0).ss), DC.sl ((v12.getD 4 d0).ll), DC.sl ((v12.getD 5 d0).ll)]
          else
            if (v12.getD 1 d0).bb = true then
              .norm [DC.i ((v12.getD 0 d0).ii), DC.b ((v12.getD 0 d0).ii == (0 : Int)), DC.i ((v12.getD 2 d0).ii), DC.s ((v12.getD 3 d0).ss), DC.sl ((v12.getD 4 d0).ll), DC.sl ((v12.getD 5 d0).ll)]
            else
              .norm [DC.i ((v12.getD 0 d0).ii), DC.b false, DC.i ((v12.getD 2 d0).ii), DC.s ((v12.getD 3 d0).ss), DC.sl ((v12.getD 4 d0).ll), DC.sl ((v12.getD 5 d0).ll)]) fun v13 =>
    if (v13.getD 1 d0).bb = true then
      .ret [DC.b false]
    else
      Out.andThenB (Loop E_spec_l22RightL1 [DC.i ((v13.getD 0 d0).ii), DC.i (0 : Int), DC.i ((v13.getD 2 d0).ii), DC.s ((v13.getD 3 d0).ss), DC.sl ((v13.getD 4 d0).ll), DC.sl ((v13.getD 5 d0).ll)]) 1 fun v20 =>
      .ret [DC.b true]
theorem eq_spec_l22Right (a : List DC) : r_spec_l22Right a = E_spec_l22Right a := (Run_eq cfg 17 h_spec_l22Right a).trans (by kernel_rfl)
/-- loop.example/g00964/impl.jsonOk -/
noncomputable def E_impl_jsonOk (a : List DC) : Out :=
    Out.andThen (if ((((a.getD 2 d0).ll).length : Int) == (0 : Int)) = true then
        .norm [DC.b ((((a.getD 3 d0).ll).length : Int) == (0 : Int)), DC.i ((a.getD 0 d0).ii), DC.s ((a.getD 1 d0).ss), DC.sl ((a.getD 2 d0).ll), DC.sl ((a.getD 3 d0).ll), DC.i ((a.getD 4 d0).ii)]
      else
        .norm [DC.b false, DC.i ((a.getD 0 d0).ii), DC.s ((a.getD 1 d0).ss), DC.sl ((a.getD 2 d0).ll), DC.sl ((a.getD 3 d0).ll), DC.i ((a.getD 4 d0).ii)]) fun v1 =>
    Out.andThenB (Out.andThen (if ((v1.getD 1 d0).ii == (1 : Int)) = true then
          .norm [DC.b ((v1.getD 0 d0).bb), DC.i ((v1.getD 1 d0).ii), DC.b ((v1.getD 1 d0).ii == (1 : Int)), DC.i ((v1.getD 1 d0).ii), DC.s ((v1.getD 2 d0).ss), DC.sl ((v1.getD 3 d0).ll), DC.sl ((v1.getD 4 d0).ll), DC.i ((v1.getD 5 d0).ii)]
        else
          Out.andThen (if ((v1.getD 1 d0).ii == (2 : Int)) = true then
              .norm [DC.b ((v1.getD 0 d0).bb), DC.i ((v1.getD 1 d0).ii), DC.b ((v1.getD 1 d0).ii == (2 : Int)), DC.i ((v1.getD 1 d0).ii), DC.s ((v1.getD 2 d0).ss), DC.sl ((v1.getD 3 d0).ll), DC.sl ((v1.getD 4 d0).ll), DC.i ((v1.getD 5 d0).ii)]
            else
              .norm [DC.b ((v1.getD 0 d0).bb), DC.i ((v1.getD 1 d0).ii), DC.b ((v1.getD 1 d0).ii == (3 : Int)), DC.i ((v1.getD 1 d0).ii), DC.s ((v1.getD 2 d0).ss), DC.sl ((v1.getD 3 d0).ll), DC.sl ((v1.getD 4 d0).ll), DC.i ((v1.getD 5 d0).ii)]) fun v2 =>
          .norm [DC.b ((v2.getD 0 d0).bb), DC.i ((v2.getD 1 d0).ii), DC.b ((v2.getD 2 d0).bb), DC.i ((v2.getD 3 d0).ii), DC.s ((v2.getD 4 d0).ss), DC.sl ((v2.getD 5 d0).ll), DC.sl ((v2.getD 6 d0).ll), DC.i ((v2.getD 7 d0).ii)]) fun v3 =>
      if (v3.getD 2 d0).bb = true then
        Out.andThen (if (v3.getD 0 d0).bb = true then
            .norm [DC.b ((v3.getD 4 d0).ss == ([] : List UInt8))]
          else
            .norm [DC.b false]) fun v4 =>
        .ret [DC.b ((v4.getD 0 d0).bb)]
      else
        if ((v3.getD 1 d0).ii == (4 : Int)) = true then
          Out.andThen (if (v3.getD 0 d0).bb = true then
              (r_impl_IntOk [DC.s ((v3.getD 4 d0).ss)]).bindR fun r5 =>
              if (r5.getD 0 d0).bb = true then
                .norm [DC.b true]
              else
                (r_impl_FloatOk [DC.s ((v3.getD 4 d0).ss)]).bindR fun r6 =>
                .norm [DC.b ((r6.getD 0 d0).bb)]
            else
              .norm [DC.b false]) fun v7 =>
          .ret [DC.b ((v7.getD 0 d0).bb)]
        else
          if ((v3.getD 1 d0).ii == (5 : Int)) = true then
            Out.andThen (if (v3.getD 0 d0).bb = true then
                (r_impl_Escaped [DC.s ((v3.getD 4 d0).ss)]).bindR fun r8 =>
                .norm [DC.b (!((r8.getD 0 d0).ss == ([] : List UInt8)))]
              else
                .norm [DC.b false]) fun v9 =>
            .ret [DC.b ((v9.getD 0 d0).bb)]
          else
            Out.andThen (if ((v3.getD 1 d0).ii == (6 : Int)) = true then
                if ((((v3.getD 6 d0).ll).length : Int) != (0 : Int)) = true then
                  .ret [DC.b false]
                else
                  .norm [DC.i ((v3.getD 3 d0).ii), DC.s ((v3.getD 4 d0).ss), DC.sl ((v3.getD 5 d0).ll), DC.sl ((v3.getD 6 d0).ll), DC.i ((v3.getD 7 d0).ii)]
              else
                if ((v3.getD 1 d0).ii == (7 : Int)) = true then
                  Out.andThen (if ((((v3.getD 6 d0).ll).length : Int) != (((v3.getD 5 d0).ll).length : Int)) = true then
                      .norm [DC.b true, DC.i ((v3.getD 3 d0).ii), DC.s ((v3.getD 4 d0).ss), DC.sl ((v3.getD 5 d0).ll), DC.sl ((v3.getD 6 d0).ll), DC.i ((v3.getD 7 d0).ii)]
                    else
                      (r_slices_ContainsFunc_string__impl_jsonOk_1 [DC.sl ((v3.getD 6 d0).ll)]).bindR fun r10 =>
                      .norm [DC.b ((r10.getD 0 d0).bb), DC.i ((v3.getD 3 d0).ii), DC.s ((v3.getD 4 d0).ss), DC.sl ((v3.getD 5 d0).ll), DC.sl ((v3.getD 6 d0).ll), DC.i ((v3.getD 7 d0).ii)]) fun v11 =>
                  if (v11.getD 0 d0).bb = true then
                    .ret [DC.b false]
                  else
                    .norm [DC.i ((v11.getD 1 d0).ii), DC.s ((v11.getD 2 d0).ss), DC.sl ((v11.getD 3 d0).ll), DC.sl ((v11.getD 4 d0).ll), DC.i ((v11.getD 5 d0).ii)]
                else
                  .ret [DC.b false]) fun v12 =>
            .norm [DC.i ((v12.getD 0 d0).ii), DC.s ((v12.getD 1 d0).ss), DC.sl ((v12.getD 2 d0).ll), DC.sl ((v12.getD 3 d0).ll), DC.i ((v12.getD 4 d0).ii)]) 0 fun v13 =>
    Out.andThen (if (decide ((v13.getD 4 d0).ii > (0 : Int))) = true then
        if ((v13.getD 1 d0).ss == ([] : List UInt8)) = true then
          (r_slices_ContainsFunc_impl_Json__impl_jsonOk_2 [DC.sl ((v13.getD 2 d0).ll), DC.i ((v13.getD 4 d0).ii)]).bindR fun r14 =>
          .norm [DC.b (!((r14.getD 0 d0).bb))]
        else
          .norm [DC.b false]
      else
        .norm [DC.b false]) fun v15 =>
    .ret [DC.b ((v15.getD 0 d0).bb)]
theorem eq_impl_jsonOk (a : List DC) : r_impl_jsonOk a = E_impl_jsonOk a := (Run_eq cfg 20 h_impl_jsonOk a).trans (by kernel_rfl)
noncomputable def E_laws_eqJsonSL1 : List DC → Out := fun v1 =>
    if (decide ((v1.getD 2 d0).ii < (((v1.getD 0 d0).ll).length : Int))) = true then
      Out.andThenB (if 30 = 30 ∧ 0 ≤ (v1.getD 2 d0).ii ∧ (v1.getD 2 d0).ii < (((v1.getD 0 d0).ll).length : Int) then
          if 30 = 30 ∧ 0 ≤ (v1.getD 2 d0).ii ∧ (v1.getD 2 d0).ii < (((v1.getD 1 d0).ll).length : Int) then
            (r_laws_eqJson [DC.i (((((v1.getD 0 d0).ll).getD ((v1.getD 2 d0).ii).toNat []).getD 0 d0).ii), DC.s (((((v1.getD 0 d0).ll).getD ((v1.getD 2 d0).ii).toNat []).getD 1 d0).ss), DC.sl (((((v1.getD 0 d0).ll).getD ((v1.getD 2 d0).ii).toNat []).getD 2 d0).ll), DC.sl (((((v1.getD 0 d0).ll).getD ((v1.getD 2 d0).ii).toNat []).getD 3 d0).ll), DC.i (((((v1.getD 1 d0).ll).getD ((v1.getD 2 d0).ii).toNat []).getD 0 d0).ii), DC.s (((((v1.getD 1 d0).ll).getD ((v1.getD 2 d0).ii).toNat []).getD 1 d0).ss), DC.sl (((((v1.getD 1 d0).ll).getD ((v1.getD 2 d0).ii).toNat []).getD 2 d0).ll), DC.sl (((((v1.getD 1 d0).ll).getD ((v1.getD 2 d0).ii).toNat []).getD 3 d0).ll)]).bindR fun r2 =>
            if (!((r2.getD 0 d0).bb)) = true then
              .ret [DC.b false]
            else
              .norm [DC.sl ((v1.getD 0 d0).ll), DC.sl ((v1.getD 1 d0).ll), DC.i ((v1.getD 2 d0).ii)]
          else
            .fail
        else
          .fail) 1 fun v3 =>
      .norm [DC.sl ((v3.getD 0 d0).ll), DC.sl ((v3.getD 1 d0).ll), DC.i (IntKind.i64.wrap ((v3.getD 2 d0).ii + (1 : Int)))]
    else
      .ex 0 []
/-- loop.example/g00964/laws.eqJsonS -/
noncomputable def E_laws_eqJsonS (a : List DC) : Out :=
    if ((((a.getD 0 d0).ll).length : Int) != (((a.getD 1 d0).ll).length : Int)) = true then
      .ret [DC.b false]
    else
      Out.andThenB (Loop E_laws_eqJsonSL1 [DC.sl ((a.getD 0 d0).ll), DC.sl ((a.getD 1 d0).ll), DC.i (0 : Int)]) 0 fun v4 =>
      .ret [DC.b true]
theorem eq_laws_eqJsonS (a : List DC) : r_laws_eqJsonS a = E_laws_eqJsonS a := (Run_eq cfg 21 h_laws_eqJsonS a).trans (by kernel_rfl)
noncomputable def E_laws_eqStringSL1 : List DC → Out := fun v1 =>
    if (decide ((v1.getD 2 d0).ii < (((v1.getD 0 d0).ll).length : Int))) = true then
      Out.andThenB (if 9 = 9 ∧ 0 ≤ (v1.getD 2 d0).ii ∧ (v1.getD 2 d0).ii < (((v1.getD 0 d0).ll).length : Int) then
          if 9 = 9 ∧ 0 ≤ (v1.getD 2 d0).ii ∧ (v1.getD 2 d0).ii < (((v1.getD 1 d0).ll).length : Int) then
            if (!(((((v1.getD 0 d0).ll).getD ((v1.getD 2 d0).ii).toNat []).getD 0 d0).ss == ((((v1.getD 1 d0).ll).getD ((v1.getD 2 d0).ii).toNat []).getD 0 d0).ss)) = true then
              .ret [DC.b false]
            else
              .norm [DC.sl ((v1.getD 0 d0).ll), DC.sl ((v1.getD 1 d0).ll), DC.i ((v1.getD 2 d0).ii)]
          else
            .fail
        else
          .fail) 1 fun v2 =>
      .norm [DC.sl ((v2.getD 0 d0).ll), DC.sl ((v2.getD 1 d0).ll), DC.i (IntKind.i64.wrap ((v2.getD 2 d0).ii + (1 : Int)))]
    else
      .ex 0 []
/-- loop.example/g00964/laws.eqStringS -/
noncomputable def E_laws_eqStringS (a : List DC) : Out :=
    if ((((a.getD 0 d0).ll).length : Int) != (((a.getD 1 d0).ll).length : Int)) = true then
      .ret [DC.b false]
    else
      Out.andThenB (Loop E_laws_eqStringSL1 [DC.sl ((a.getD 0 d0).ll), DC.sl ((a.getD 1 d0).ll), DC.i (0 : Int)]) 0 fun v3 =>
      .ret [DC.b true]
theorem eq_laws_eqStringS (a : List DC) : r_laws_eqStringS a = E_laws_eqStringS a := (Run_eq cfg 22 h_laws_eqStringS a).trans (by kernel_rfl)
/-- loop.example/g00964/laws.szToken -/
noncomputable def E_laws_szToken (a : List DC) : Out :=
    if (decide ((IntKind.i64.wrap ((a.getD 3 d0).ii - (((a.getD 1 d0).ss).length : Int))) < (0 : Int))) = true then
      .ret [DC.i (-1 : Int)]
    else
      .ret [DC.i (IntKind.i64.wrap ((a.getD 3 d0).ii - (((a.getD 1 d0).ss).length : Int)))]
theorem eq_laws_szToken (a : List DC) : r_laws_szToken a = E_laws_szToken a := (Run_eq cfg 23 h_laws_szToken a).trans (by kernel_rfl)
/-- loop.example/g00964/laws.toToken -/
noncomputable def E_laws_toToken (a : List DC) : Out :=
    .ret [DC.i ((a.getD 0 d0).ii), DC.s ((a.getD 1 d0).ss), DC.i ((a.getD 2 d0).ii)]
theorem eq_laws_toToken (a : List DC) : r_laws_toToken a = E_laws_toToken a := (Run_eq cfg 27 h_laws_toToken a).trans (by kernel_rfl)
/-- loop.example/g00964/spec.TokenOk -/
noncomputable def E_spec_TokenOk (a : List DC) : Out :=
    Out.andThenB (if ((a.getD 0 d0).ii == (1 : Int)) = true then
        (r_spec_SignOk [DC.s ((a.getD 1 d0).ss)]).bindR fun r1 =>
        .ret [DC.b ((r1.getD 0 d0).bb)]
      else
        if ((a.getD 0 d0).ii == (2 : Int)) = true then
          (r_spec_NameOk [DC.s ((a.getD 1 d0).ss)]).bindR fun r2 =>
          .ret [DC.b ((r2.getD 0 d0).bb)]
        else
          if ((a.getD 0 d0).ii == (3 : Int)) = true then
            (r_spec_IntOk [DC.s ((a.getD 1 d0).ss)]).bindR fun r3 =>
            .ret [DC.b ((r3.getD 0 d0).bb)]
          else
            if ((a.getD 0 d0).ii == (4 : Int)) = true then
              (r_spec_FloatOk [DC.s ((a.getD 1 d0).ss)]).bindR fun r4 =>
              .ret [DC.b ((r4.getD 0 d0).bb)]
            else
              if ((a.getD 0 d0).ii == (5 : Int)) = true then
                (r_spec_Escaped [DC.s ((a.getD 1 d0).ss)]).bindR fun r5 =>
                .ret [DC.b (!((r5.getD 0 d0).ss == ([] : List UInt8)))]
              else
                .norm []) 0 fun v6 =>
    .ret [DC.b false]
theorem eq_spec_TokenOk (a : List DC) : r_spec_TokenOk a = E_spec_TokenOk a := (Run_eq cfg 24 h_spec_TokenOk a).trans (by kernel_rfl)
/-- loop.example/g00964/spec.Apart -/
noncomputable def E_spec_Apart (a : List DC) : Out :=
    Out.andThen ((r_spec_l15Wordy [DC.i ((a.getD 0 d0).ii), DC.s ((a.getD 1 d0).ss), DC.i ((a.getD 2 d0).ii)]).bindR fun r1 =>
      if (r1.getD 0 d0).bb = true then
        (r_spec_l15Wordy [DC.i ((a.getD 3 d0).ii), DC.s ((a.getD 4 d0).ss), DC.i ((a.getD 5 d0).ii)]).bindR fun r2 =>
        if (r2.getD 0 d0).bb = true then
          .norm [DC.b true, DC.i ((a.getD 0 d0).ii), DC.s ((a.getD 1 d0).ss), DC.i ((a.getD 2 d0).ii), DC.i ((a.getD 3 d0).ii), DC.s ((a.getD 4 d0).ss), DC.i ((a.getD 5 d0).ii)]
        else
          if ((a.getD 0 d0).ii == (5 : Int)) = true then
            .norm [DC.b ((a.getD 3 d0).ii == (5 : Int)), DC.i ((a.getD 0 d0).ii), DC.s ((a.getD 1 d0).ss), DC.i ((a.getD 2 d0).ii), DC.i ((a.getD 3 d0).ii), DC.s ((a.getD 4 d0).ss), DC.i ((a.getD 5 d0).ii)]
          else
            .norm [DC.b false, DC.i ((a.getD 0 d0).ii), DC.s ((a.getD 1 d0).ss), DC.i ((a.getD 2 d0).ii), DC.i ((a.getD 3 d0).ii), DC.s ((a.getD 4 d0).ss), DC.i ((a.getD 5 d0).ii)]
      else
        if ((a.getD 0 d0).ii == (5 : Int)) = true then
          .norm [DC.b ((a.getD 3 d0).ii == (5 : Int)), DC.i ((a.getD 0 d0).ii), DC.s ((a.getD 1 d0).ss), DC.i ((a.getD 2 d0).ii), DC.i ((a.getD 3 d0).ii), DC.s ((a.getD 4 d0).ss), DC.i ((a.getD 5 d0).ii)]
        else
          .norm [DC.b false, DC.i ((a.getD 0 d0).ii), DC.s ((a.getD 1 d0).ss), DC.i ((a.getD 2 d0).ii), DC.i ((a.getD 3 d0).ii), DC.s ((a.getD 4 d0).ss), DC.i ((a.getD 5 d0).ii)]) fun v3 =>
    if (v3.getD 0 d0).bb = true then
      .ret [DC.b true]
    else
      Out.andThen (if ((v3.getD 1 d0).ii == (3 : Int)) = true then
          if ((v3.getD 4 d0).ii == (1 : Int)) = true then
            .norm [DC.b ((v3.getD 5 d0).ss == ([46, 46, 46] : List UInt8))]
          else
            .norm [DC.b false]
        else
          if ((v3.getD 1 d0).ii == (4 : Int)) = true then
            if ((v3.getD 4 d0).ii == (1 : Int)) = true then
              .norm [DC.b ((v3.getD 5 d0).ss == ([46, 46, 46] : List UInt8))]
            else
              .norm [DC.b false]
          else
            .norm [DC.b false]) fun v4 =>
      .ret [DC.b ((v4.getD 0 d0).bb)]
theorem eq_spec_Apart (a : List DC) : r_spec_Apart a = E_spec_Apart a := (Run_eq cfg 25 h_spec_Apart a).trans (by kernel_rfl)
/-- loop.example/g00964/spec.TokenText -/
noncomputable def E_spec_TokenText (a : List DC) : Out :=
    if ((a.getD 0 d0).ii == (5 : Int)) = true then
      (r_spec_Escaped [DC.s ((a.getD 1 d0).ss)]).bindR fun r1 =>
      .ret [DC.s ((r1.getD 0 d0).ss)]
    else
      .ret [DC.s ((a.getD 1 d0).ss)]
theorem eq_spec_TokenText (a : List DC) : r_spec_TokenText a = E_spec_TokenText a := (Run_eq cfg 26 h_spec_TokenText a).trans (by kernel_rfl)
/-- loop.example/g00964/impl.TokenOk -/
noncomputable def E_impl_TokenOk (a : List DC) : Out :=
    Out.andThenB (if ((a.getD 0 d0).ii == (1 : Int)) = true then
        (r_impl_SignOk [DC.s ((a.getD 1 d0).ss)]).bindR fun r1 =>
        .ret [DC.b ((r1.getD 0 d0).bb)]
      else
        if ((a.getD 0 d0).ii == (2 : Int)) = true then
          (r_impl_NameOk [DC.s ((a.getD 1 d0).ss)]).bindR fun r2 =>
          .ret [DC.b ((r2.getD 0 d0).bb)]
        else
          if ((a.getD 0 d0).ii == (3 : Int)) = true then
            (r_impl_IntOk [DC.s ((a.getD 1 d0).ss)]).bindR fun r3 =>
            .ret [DC.b ((r3.getD 0 d0).bb)]
          else
            if ((a.getD 0 d0).ii == (4 : Int)) = true then
              (r_impl_FloatOk [DC.s ((a.getD 1 d0).ss)]).bindR fun r4 =>
              .ret [DC.b ((r4.getD 0 d0).bb)]
            else
              if ((a.getD 0 d0).ii == (5 : Int)) = true then
                (r_impl_Escaped [DC.s ((a.getD 1 d0).ss)]).bindR fun r5 =>
                .ret [DC.b (!((r5.getD 0 d0).ss == ([] : List UInt8)))]
              else
                .norm []) 0 fun v6 =>
    .ret [DC.b false]
theorem eq_impl_TokenOk (a : List DC) : r_impl_TokenOk a = E_impl_TokenOk a := (Run_eq cfg 28 h_impl_TokenOk a).trans (by kernel_rfl)
/-- loop.example/g00964/impl.Apart -/
noncomputable def E_impl_Apart (a : List DC) : Out :=
    Out.andThenB (Out.andThen ((r_impl_Apart_1 [DC.i ((a.getD 0 d0).ii), DC.s ((a.getD 1 d0).ss), DC.i ((a.getD 2 d0).ii)]).bindR fun r1 =>
        if (r1.getD 0 d0).bb = true then
          (r_impl_Apart_1 [DC.i ((a.getD 3 d0).ii), DC.s ((a.getD 4 d0).ss), DC.i ((a.getD 5 d0).ii)]).bindR fun r2 =>
          .norm [DC.b ((r2.getD 0 d0).bb), DC.i ((a.getD 0 d0).ii), DC.s ((a.getD 1 d0).ss), DC.i ((a.getD 2 d0).ii), DC.i ((a.getD 3 d0).ii), DC.s ((a.getD 4 d0).ss), DC.i ((a.getD 5 d0).ii)]
        else
          .norm [DC.b false, DC.i ((a.getD 0 d0).ii), DC.s ((a.getD 1 d0).ss), DC.i ((a.getD 2 d0).ii), DC.i ((a.getD 3 d0).ii), DC.s ((a.getD 4 d0).ss), DC.i ((a.getD 5 d0).ii)]) fun v3 =>
      if (v3.getD 0 d0).bb = true then
        .ret [DC.b true]
      else
        Out.andThen ((r_impl_isNumber [DC.i ((v3.getD 1 d0).ii), DC.s ((v3.getD 2 d0).ss), DC.i ((v3.getD 3 d0).ii)]).bindR fun r4 =>
          if (r4.getD 0 d0).bb = true then
            if ((v3.getD 4 d0).ii == (1 : Int)) = true then
              .norm [DC.b ((v3.getD 5 d0).ss == ([46, 46, 46] : List UInt8)), DC.i ((v3.getD 1 d0).ii), DC.s ((v3.getD 2 d0).ss), DC.i ((v3.getD 3 d0).ii), DC.i ((v3.getD 4 d0).ii), DC.s ((v3.getD 5 d0).ss), DC.i ((v3.getD 6 d0).ii)]
            else
              .norm [DC.b false, DC.i ((v3.getD 1 d0).ii), DC.s ((v3.getD 2 d0).ss), DC.i ((v3.getD 3 d0).ii), DC.i ((v3.getD 4 d0).ii), DC.s ((v3.getD 5 d0).ss), DC.i ((v3.getD 6 d0).ii)]
          else
            .norm [DC.b false, DC.i ((v3.getD 1 d0).ii), DC.s ((v3.getD 2 d0).ss), DC.i ((v3.getD 3 d0).ii), DC.i ((v3.getD 4 d0).ii), DC.s ((v3.getD 5 d0).ss), DC.i ((v3.getD 6 d0).ii)]) fun v5 =>
        if (v5.getD 0 d0).bb = true then
          .ret [DC.b true]
        else
          .norm [DC.i ((v5.getD 1 d0).ii), DC.s ((v5.getD 2 d0).ss), DC.i ((v5.getD 3 d0).ii), DC.i ((v5.getD 4 d0).ii), DC.s ((v5.getD 5 d0).ss), DC.i ((v5.getD 6 d0).ii)]) 0 fun v6 =>
    Out.andThen (if ((v6.getD 0 d0).ii == (5 : Int)) = true then
        .norm [DC.b ((v6.getD 3 d0).ii == (5 : Int))]
      else
        .norm [DC.b false]) fun v7 =>
    .ret [DC.b ((v7.getD 0 d0).bb)]
theorem eq_impl_Apart (a : List DC) : r_impl_Apart a = E_impl_Apart a := (Run_eq cfg 29 h_impl_Apart a).trans (by kernel_rfl)
/-- loop.example/g00964/impl.TokenText -/
noncomputable def E_impl_TokenText (a : List DC) : Out :=
    if ((a.getD 0 d0).ii == (5 : Int)) = true then
      (r_impl_Escaped [DC.s ((a.getD 1 d0).ss)]).bindR fun r1 =>
      .ret [DC.s ((r1.getD 0 d0).ss)]
    else
      .ret [DC.s ((a.getD 1 d0).ss)]
theorem eq_impl_TokenText (a : List DC) : r_impl_TokenText a = E_impl_TokenText a := (Run_eq cfg 30 h_impl_TokenText a).trans (by kernel_rfl)
/-- loop.example/g00964/laws.eqToken -/
noncomputable def E_laws_eqToken (a : List DC) : Out :=
    if ((a.getD 0 d0).ii != (a.getD 3 d0).ii) = true then
      .ret [DC.b false]
    else
      if (!((a.getD 1 d0).ss == (a.getD 4 d0).ss)) = true then
        .ret [DC.b false]
      else
        if ((a.getD 2 d0).ii != (a.getD 5 d0).ii) = true then
          .ret [DC.b false]
        else
          .ret [DC.b true]
theorem eq_laws_eqToken (a : List DC) : r_laws_eqToken a = E_laws_eqToken a := (Run_eq cfg 31 h_laws_eqToken a).trans (by kernel_rfl)
/-- loop.example/g00964/spec.IntOk -/
noncomputable def E_spec_IntOk (a : List DC) : Out :=
    Out.andThen (if (decide ((((a.getD 0 d0).ss).length : Int) ≤ (40 : Int))) = true then
        if (decide ((((a.getD 0 d0).ss).length : Int) > (0 : Int))) = true then
          (r_spec_l03Int [DC.s ((a.getD 0 d0).ss)]).bindR fun r1 =>
          .norm [DC.b ((r1.getD 0 d0).ii == (((a.getD 0 d0).ss).length : Int))]
        else
          .norm [DC.b false]
      else
        .norm [DC.b false]) fun v2 =>
    .ret [DC.b ((v2.getD 0 d0).bb)]
theorem eq_spec_IntOk (a : List DC) : r_spec_IntOk a = E_spec_IntOk a := (Run_eq cfg 32 h_spec_IntOk a).trans (by kernel_rfl)
end Go.Proofs.YtljggmbgbnmapaaDoorV
