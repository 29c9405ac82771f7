import Derived.Test.YthjfcobfjljkpabGreatDoorMD4
import Derived.WalkKit
import Derived.ProofKit
import Derived.OpenShut
import Derived.ShutString
import Derived.ChangeOld
import Derived.SizedLaws
import Derived.Shelf.Strings.IndexAny
import Derived.Laws.RangeAny
import Derived.Laws.Runes
import Derived.Below
import Derived.Shelf.RegionOpenPlain
import Derived.Shelf.Strings.IndexAnyAll
import Derived.Lib.QuoteLoop
import Derived.Lib.RuneCountTail
import Derived.WalkMore
import Derived.Shelf.Small.Utf8
import Derived.Test.YthjfcobfjljkpabGreatDoorProg
import Derived.Shelf.Lays
import Derived.Shelf.Unicode.ValidAny
import Derived.Lib.LaidU8T
import Derived.Shelf.Strings.Cut
import Derived.Shelf.Strings.Search3
import Derived.Shelf.Strings.SlTrimAscii
import Derived.Shelf.Small.Strs
/- The input reads as it did. -/
namespace Go.Proofs.QV
open Go
theorem args_stay {H : Type} {enc : TypeId × Value → H} {P : Program} (hl : laidOutB P = true) {W W' : World} (hb : RowKit.Below W.heap.size W W') : ∀ {ts : List TypeId} {vs : List Value} {ds : List (DataW H)} {ps : List MemPlace},
    (ts.all fun t => P.readableRec t && Nat.blt t P.types.size) = true → DataW.TrodAll enc P W 0 (fun _ => true) true ts vs ds ps → DataW.TrodAll enc P W' 0 (fun b => decide (b < W.heap.size)) true ts vs ds ps
  | [], [], [], ps, _, h => h
  | t :: ts, v :: vs, d :: ds, ps, ht, ⟨p, q, h1, h2, h3⟩ => by
    simp only [List.all_cons, Bool.and_eq_true] at ht
    obtain ⟨⟨k1, k2⟩, k3⟩ := ht
    refine ⟨p, q, RowKit.Below.trod hl k1 (by simpa [Nat.blt_eq] using k2) h1 hb ?_, args_stay hl hb k3 h2, h3⟩
    obtain ⟨m, hm⟩ := h1
    exact DataW.trod_lt m _ _ _ hm
  | [], _ :: _, _, _, _, h => h.elim
  | [], [], _ :: _, _, _, h => h.elim
  | _ :: _, [], _, _, _, h => h.elim
  | _ :: _, _ :: _, [], _, _, h => h.elim
theorem wrap64 {n : Int} (h1 : -9223372036854775808 ≤ n) (h2 : n ≤ 9223372036854775807) : IntKind.i64.wrap n = n := by
  rw [IntKind.wrap_i64]
  omega
set_option linter.unusedVariables false
set_option linter.unusedSimpArgs false
def Out.esc (o : Out) : Prop := ∀ K, o.andThen K = o
theorem Out.esc_ret (v : List DC) : (Out.ret v).esc := fun _ => rfl
theorem Out.esc_ex (id : Nat) (v : List DC) : (Out.ex id v).esc := fun _ => rfl
theorem Loop_norm {F : List DC → Out} {v v' : List DC} (h : F v = .norm v') : Loop F v = Loop F v' := by rw [Loop_eq, h]; rfl
theorem Loop_ret {F : List DC → Out} {v r : List DC} (h : F v = .ret r) : Loop F v = .ret r := by rw [Loop_eq, h]; rfl
theorem Loop_ex {F : List DC → Out} {v r : List DC} {id : Nat} (h : F v = .ex id r) : Loop F v = .ex id r := by rw [Loop_eq, h]; rfl
theorem Loop_esc {F : List DC → Out} {v : List DC} {o : Out} (h : F v = o) (he : o.esc) : Loop F v = o := by rw [Loop_eq, h, he]
theorem Loop_upto {F : List DC → Out} {st : Nat → List DC} {o : Out} : ∀ (m i : Nat), (∀ j, i ≤ j → j < i + m → F (st j) = .norm (st (j + 1))) → Loop F (st (i + m)) = o → Loop F (st i) = o
  | 0, i, _, h2 => by simpa using h2
  | m + 1, i, h1, h2 => by
    rw [Loop_norm (h1 i (Nat.le_refl _) (by omega))]
    refine Loop_upto m (i + 1) (fun j hj hj' => h1 j (by omega) (by omega)) ?_
    rw [show i + 1 + m = i + (m + 1) by omega]
    exact h2
def goE {α σ : Type} (f : Nat → σ → α → Sum σ Out) (fin : σ → Out) : Nat → σ → List α → Out
  | _, s, [] => fin s
  | i, s, x :: xs =>
    match f i s x with
    | .inl s' => goE f fin (i + 1) s' xs
    | .inr o => o
theorem Loop_fold {α σ : Type} {l : List α} {st : Nat → σ → List DC} {f : Nat → σ → α → Sum σ Out} {fin : σ → Out} {F : List DC → Out} (I : Nat → σ → Prop)
    (hF : ∀ (i : Nat) (s : σ) (hi : i < l.length), I i s → (∃ s', f i s l[i] = .inl s' ∧ I (i + 1) s' ∧ F (st i s) = .norm (st (i + 1) s')) ∨ ∃ o, f i s l[i] = .inr o ∧ o.esc ∧ F (st i s) = o)
    (hend : ∀ s, I l.length s → F (st l.length s) = fin s ∧ (fin s).esc) : ∀ (m i : Nat) (s : σ), i + m = l.length → I i s → Loop F (st i s) = goE f fin i s (l.drop i)
  | 0, i, s, hi, hI => by
    have : i = l.length := by omega
    subst this
    rw [List.drop_length, goE]
    exact Loop_esc (hend s hI).1 (hend s hI).2
  | m + 1, i, s, hi, hI => by
    have hlt : i < l.length := by omega
    rw [List.drop_eq_getElem_cons hlt, goE]
    rcases hF i s hlt hI with ⟨s', h1, h2, h3⟩ | ⟨o, h1, h2, h3⟩
    · rw [h1, Loop_norm h3]
      exact Loop_fold I hF hend m (i + 1) s' (by omega) h2
    · rw [h1]
      exact Loop_esc h3 h2
def goF {α : Type} (p : α → Bool) (stop : Nat → α → Out) (fin : Out) : Nat → List α → Out
  | _, [] => fin
  | i, x :: xs => if p x = true then stop i x else goF p stop fin (i + 1) xs
theorem Loop_find {α : Type} {l : List α} {st : Nat → List DC} {p : α → Bool} {stop : Nat → α → Out} {fin : Out} {F : List DC → Out}
    (hF : ∀ (i : Nat) (hi : i < l.length), F (st i) = if p l[i] = true then stop i l[i] else .norm (st (i + 1)))
    (hs : ∀ i x, (stop i x).esc) (hend : F (st l.length) = fin) (hfin : fin.esc) : ∀ (m i : Nat), i + m = l.length → Loop F (st i) = goF p stop fin i (l.drop i)
  | 0, i, hi => by
    have : i = l.length := by omega
    subst this
    rw [List.drop_length, goF]
    exact Loop_esc hend hfin
  | m + 1, i, hi => by
    have hlt : i < l.length := by omega
    rw [List.drop_eq_getElem_cons hlt, goF]
    by_cases hp : p l[i] = true
    · rw [if_pos hp]
      exact Loop_esc (by rw [hF i hlt, if_pos hp]) (hs _ _)
    · rw [if_neg hp, Loop_norm (by rw [hF i hlt, if_neg hp])]
      exact Loop_find hF hs hend hfin m (i + 1) (by omega)
theorem Loop_find0 {α : Type} {l : List α} {st : Nat → List DC} {p : α → Bool} {stop : Nat → α → Out} {fin : Out} {F : List DC → Out}
    (hF : ∀ (i : Nat) (hi : i < l.length), F (st i) = if p l[i] = true then stop i l[i] else .norm (st (i + 1)))
    (hs : ∀ i x, (stop i x).esc) (hend : F (st l.length) = fin) (hfin : fin.esc) : Loop F (st 0) = goF p stop fin 0 l := by
  have := Loop_find hF hs hend hfin l.length 0 (by omega)
  rwa [List.drop_zero] at this
theorem goF_idx {α : Type} {p : α → Bool} {stop : Nat → α → Out} {fin : Out} : ∀ (l : List α) (i : Nat), goF p stop fin i l = match l.findIdx? p with | some j => (match l[j]? with | some x => stop (i + j) x | none => .fail) | none => fin
  | [], i => rfl
  | x :: l, i => by
    rw [goF, List.findIdx?_cons]
    by_cases hp : p x = true
    · simp [hp]
    · simp only [hp, Bool.false_eq_true, if_false]
      rw [goF_idx l (i + 1)]
      cases h : l.findIdx? p with
      | none => simp
      | some j => simp [Nat.add_assoc, Nat.add_comm 1 j]
theorem goF_any {α : Type} {p : α → Bool} {a : Out} {fin : Out} : ∀ (l : List α) (i : Nat), goF p (fun _ _ => a) fin i l = if l.any p = true then a else fin
  | [], i => rfl
  | x :: l, i => by
    rw [goF, goF_any l (i + 1), List.any_cons]
    cases p x <;> simp
theorem wrap_succ {i n : Nat} (h : i < n) (hn : n ≤ 9223372036854775807) : IntKind.i64.wrap ((i : Int) + 1) = ((i + 1 : Nat) : Int) := by
  rw [wrap64 (by omega) (by omega)]
  simp
theorem map_getD {α : Type} {f : α → List DC} {l : List α} {i : Nat} (h : i < l.length) : (l.map f).getD i [] = f l[i] := by
  rw [List.getD_eq_getElem?_getD, List.getElem?_map, List.getElem?_eq_getElem h]
  rfl
def szR (left : Int) (w : Nat) : Int := if left < (w : Int) then -1 else left - w
theorem szR_lt {left : Int} {w : Nat} (h : left < (w : Int)) : szR left w = -1 := if_pos h
theorem szR_ge {left : Int} {w : Nat} (h : ¬ left < (w : Int)) : szR left w = left - w := if_neg h
theorem szS_loop {α : Type} {enc : α → List DC} {vs : List α} {F : List DC → Out}
    (hF : ∀ (i : Nat) (hi : i < vs.length) (left : Int), 0 ≤ left → left ≤ 1048576 → F [.sl (vs.map enc), .i left, .i (i : Int)] = if left < (wtL (enc vs[i]) : Int) then .ret [.i (-1)] else .norm [.sl (vs.map enc), .i (left - wtL (enc vs[i])), .i ((i + 1 : Nat) : Int)])
    (hend : ∀ left, F [.sl (vs.map enc), .i left, .i (vs.length : Int)] = .ex 0 [.i left]) :
    ∀ (m i : Nat) (left : Int), i + m = vs.length → 0 ≤ left → left ≤ 1048576 → Loop F [.sl (vs.map enc), .i left, .i (i : Int)] = if left < (wtV ((vs.drop i).map enc) : Int) then .ret [.i (-1)] else .ex 0 [.i (left - wtV ((vs.drop i).map enc))]
  | 0, i, left, hi, h0, h1 => by
    have : i = vs.length := by omega
    subst this
    rw [List.drop_length, Loop_ex (hend left)]
    simp only [List.map_nil, wtV]
    rw [if_neg (by omega)]
    simp
  | m + 1, i, left, hi, h0, h1 => by
    have hlt : i < vs.length := by omega
    have hw : wtV ((vs.drop i).map enc) = wtL (enc vs[i]) + wtV ((vs.drop (i + 1)).map enc) := by
      rw [List.drop_eq_getElem_cons hlt, List.map_cons, wtV]
    by_cases hc : left < (wtL (enc vs[i]) : Int)
    · rw [Loop_ret (by rw [hF i hlt left h0 h1, if_pos hc]), if_pos (by omega)]
    · rw [Loop_norm (by rw [hF i hlt left h0 h1, if_neg hc]), szS_loop hF hend m (i + 1) _ (by omega) (by omega) (by omega), hw]
      by_cases h2 : left - (wtL (enc vs[i]) : Int) < (wtV ((vs.drop (i + 1)).map enc) : Int)
      · rw [if_pos h2, if_pos (by omega)]
      · rw [if_neg h2, if_neg (by omega)]
        congr 3
        omega
theorem szS_all {α : Type} {enc : α → List DC} {vs : List α} {F : List DC → Out} (hl : vs.length ≤ 9223372036854775807)
    (hF : ∀ (i : Nat) (hi : i < vs.length) (left : Int), 0 ≤ left → left ≤ 1048576 → F [.sl (vs.map enc), .i left, .i (i : Int)] = if left < (wtL (enc vs[i]) : Int) then .ret [.i (-1)] else .norm [.sl (vs.map enc), .i (left - wtL (enc vs[i])), .i ((i + 1 : Nat) : Int)])
    (hend : ∀ left, F [.sl (vs.map enc), .i left, .i (vs.length : Int)] = .ex 0 [.i left]) {left : Int} (h0 : 0 ≤ left) (h1 : left ≤ 1048576) :
    (if (decide ((IntKind.i64.wrap (left - (((vs.map enc).length : Nat) : Int))) < (0 : Int))) = true then Out.ret [DC.i (-1 : Int)]
    else Out.andThenB (Loop F [DC.sl (vs.map enc), DC.i (IntKind.i64.wrap (left - (((vs.map enc).length : Nat) : Int))), DC.i (0 : Int)]) 0 fun v4 => .ret [DC.i ((v4.getD 0 d0).ii)]) = .ret [.i (szR left (DC.wt (.sl (vs.map enc))))] := by
  rw [DC.wt, List.length_map, wrap64 (by omega) (by omega)]
  by_cases hc : left - (vs.length : Int) < 0
  · simp only [hc, decide_true, if_true]
    rw [szR_lt (by omega)]
  · simp only [hc, decide_false, Bool.false_eq_true, if_false]
    have := szS_loop hF hend vs.length 0 (left - vs.length) (by omega) (by omega) (by omega)
    rw [List.drop_zero] at this
    rw [show (0 : Int) = ((0 : Nat) : Int) from rfl, this]
    by_cases h2 : left - (vs.length : Int) < (wtV (vs.map enc) : Int)
    · rw [if_pos h2, szR_lt (by omega)]
      rfl
    · rw [if_neg h2, szR_ge (by omega)]
      simp only [Out.andThenB_ex, if_true, List.getD_cons_zero, DC.ii_i]
      congr 3
      omega
theorem toS_loop {α : Type} {enc : α → List DC} {vs : List α} {z : List DC} {F : List DC → Out} (hl : vs.length ≤ 1048576)
    (hF : ∀ (i : Nat) (hi : i < vs.length) (cur : List (List DC)), cur.length = vs.length → cur.getD i [] = z → F [.sl (vs.map enc), .sl cur, .i (i : Int)] = .norm [.sl (vs.map enc), .sl (cur.set i (enc vs[i])), .i ((i + 1 : Nat) : Int)])
    (hend : ∀ cur, F [.sl (vs.map enc), .sl cur, .i (vs.length : Int)] = .ex 0 [.sl cur]) :
    Loop F [.sl (vs.map enc), .sl (List.replicate vs.length z), .i ((0 : Nat) : Int)] = .ex 0 [.sl (vs.map enc)] := by
  have hloop : Loop F [.sl (vs.map enc), .sl (List.replicate vs.length z), .i ((0 : Nat) : Int)] = .ex 0 [.sl (vs.map enc)] := by
    have h := Loop_upto (F := F) (st := fun i => [.sl (vs.map enc), .sl ((vs.map enc).take i ++ List.replicate (vs.length - i) z), .i (i : Int)]) (o := .ex 0 [.sl (vs.map enc)]) vs.length 0 (fun i _ hi => by
      have hlt : i < vs.length := by omega
      have hlen : ((vs.map enc).take i ++ List.replicate (vs.length - i) z).length = vs.length := by simp; omega
      have hgz : ((vs.map enc).take i ++ List.replicate (vs.length - i) z).getD i [] = z := by
        rw [List.getD_eq_getElem?_getD, List.getElem?_append_right (by simp; omega), List.getElem?_replicate, if_pos (by simp; omega)]
        rfl
      have := hF i hlt _ hlen hgz
      have hset : ((vs.map enc).take i ++ List.replicate (vs.length - i) z).set i (enc vs[i]) = (vs.map enc).take (i + 1) ++ List.replicate (vs.length - (i + 1)) z := by
        have ht : (vs.map enc).take (i + 1) = (vs.map enc).take i ++ [enc vs[i]] := by rw [List.take_add_one, List.getElem?_map, List.getElem?_eq_getElem hlt]; rfl
        rw [List.set_append_right _ _ (by simp; omega), ht]
        obtain ⟨m, hm⟩ : ∃ m, vs.length - i = m + 1 := ⟨vs.length - i - 1, by omega⟩
        have hm2 : vs.length - (i + 1) = m := by omega
        have hm3 : i - ((vs.map enc).take i).length = 0 := by simp; omega
        rw [hm, hm2, hm3, List.replicate_succ]
        simp only [List.set_cons_zero, List.append_assoc, List.singleton_append]
      rw [hset] at this
      exact this) (by
        have := hend (vs.map enc)
        refine Loop_ex ?_
        have ht : (vs.map enc).take (0 + vs.length) = vs.map enc := List.take_of_length_le (by simp)
        rw [ht]
        simpa using this)
    simpa using h
  exact hloop
theorem lim_of {n : Nat} (h : n ≤ 1048576) : (n : Int) < (LIM : Int) := by simp only [LIM]; omega
theorem eqS_all {l : List (List DC)} {F : List DC → Out} (hF : ∀ (i : Nat), i < l.length → F [.sl l, .sl l, .i (i : Int)] = .norm [.sl l, .sl l, .i ((i + 1 : Nat) : Int)]) (hend : F [.sl l, .sl l, .i (l.length : Int)] = .ex 0 []) :
    (if ((l.length : Int) != (l.length : Int)) = true then Out.ret [DC.b false]
    else Out.andThenB (Loop F [DC.sl l, DC.sl l, DC.i (0 : Int)]) 0 fun v4 => .ret [DC.b true]) = .ret [.b true] := by
  have hloop : Loop F [.sl l, .sl l, .i ((0 : Nat) : Int)] = .ex 0 [] :=
    Loop_upto (st := fun i => [.sl l, .sl l, .i (i : Int)]) l.length 0 (fun j _ hj => hF j (by omega)) (by rw [Nat.zero_add]; exact Loop_ex hend)
  rw [show (0 : Int) = ((0 : Nat) : Int) from rfl, hloop]
  simp
theorem zz0 {α : Type} {x : α} {l : List α} {d : α} : (x :: l).getD 0 d = x := List.getD_cons_zero
theorem zz1 {α : Type} {x : α} {l : List α} {i : Nat} {d : α} : (x :: l).getD (i + 1) d = l.getD i d := List.getD_cons_succ
@[simp] theorem zb (x : Bool) : (DC.b x).bb = x := rfl
@[simp] theorem zi (x : Int) : (DC.i x).ii = x := rfl
@[simp] theorem zs (x : List UInt8) : (DC.s x).ss = x := rfl
@[simp] theorem zl (x : List (List DC)) : (DC.sl x).ll = x := rfl
theorem zt (b : Bool) : b = true ∨ b = false := Bool.eq_false_or_eq_true b
theorem zm {α β : Type} (f : α → β) {l : List α} : (l.map f).length = l.length := List.length_map f
theorem zf : (false = true) = False := Bool.false_eq_true
def k1Is : CT → KC → Bool
  | .b, .one .b => true
  | .i k, .one (.i k') => decide (k = k')
  | .s, .one .s => true
  | _, _ => false
def tmIs : List CT → List KC → Bool
  | [], [] => true
  | c :: cs, k :: ks => k1Is c k && tmIs cs ks
  | _, _ => false
def hintLit (cts : List CT) (h : Hint) : Bool := tmIs cts h.tm && (match h.ob with | [] => true | _ => false)
theorem tmIs_eq : ∀ {cts : List CT} {ks : List KC}, tmIs cts ks = true → ks = cts.map fun c => .one c.k1
  | [], [], _ => rfl
  | c :: cs, k :: ks, h => by
    simp only [tmIs, Bool.and_eq_true] at h
    rw [List.map_cons, ← tmIs_eq h.2]
    congr 1
    have h1 := h.1
    unfold k1Is at h1
    split at h1
    · rfl
    · simp only [decide_eq_true_eq] at h1; rw [h1]; rfl
    · rfl
    · simp at h1
  | [], _ :: _, h => by simp [tmIs] at h
  | _ :: _, [], h => by simp [tmIs] at h
theorem tmIs_flat : ∀ {cts : List CT} {ks : List KC}, tmIs cts ks = true → cts.all CT.flat = true
  | [], _, _ => rfl
  | c :: cs, k :: ks, h => by
    simp only [tmIs, Bool.and_eq_true] at h
    rw [List.all_cons, tmIs_flat h.2, Bool.and_true]
    have h1 := h.1
    cases c <;> simp_all [k1Is, CT.flat]
  | _ :: _, [], h => by simp [tmIs] at h
def litC : CT → DC → Value
  | .b, d => .bool d.bb
  | .i k, d => .int k d.ii
  | .s, d => .string ⟨d.ss.toArray⟩
  | .sl _, _ => undef
def lits : List CT → List DC → Nat → List Value
  | [], _, _ => []
  | c :: cs, v, n => litC c (v.getD n d0) :: lits cs v (n + 1)
theorem lits_len : ∀ (cts : List CT) (v : List DC) (n : Nat), (lits cts v n).length = cts.length
  | [], _, _ => rfl
  | c :: cs, v, n => by rw [lits, List.length_cons, lits_len cs v (n + 1), List.length_cons]
theorem mkT_lit (v : List DC) : ∀ (cts : List CT) (n i : Nat) (c : CT), cts.all CT.flat = true → cts[i]? = some c → (mkT v n (cts.map fun c => KC.one c.k1))[i]? = some (.one (c.k1.mk v (n + i)))
  | [], n, i, c, _, h => by simp at h
  | a :: cts, n, 0, c, hf, h => by
    simp only [List.getElem?_cons_zero, Option.some.injEq] at h
    subst h
    rfl
  | a :: cts, n, i + 1, c, hf, h => by
    simp only [List.all_cons, Bool.and_eq_true] at hf
    simp only [List.getElem?_cons_succ] at h
    have hc : a.k1.cnt = 1 := by cases a <;> rfl
    rw [List.map_cons, mkT, List.getElem?_cons_succ, hc, mkT_lit v cts (n + 1) i c hf.2 h]
    congr 3
    omega
theorem mkT_len (v : List DC) : ∀ (ks : List KC) (n : Nat), (mkT v n ks).length = ks.length
  | [], _ => rfl
  | .one k :: ks, n => by rw [mkT, List.length_cons, mkT_len v ks, List.length_cons]
  | .agg l :: ks, n => by rw [mkT, List.length_cons, mkT_len v ks, List.length_cons]
theorem lits_get (v : List DC) : ∀ (cts : List CT) (n i : Nat) (c : CT), cts[i]? = some c → (lits cts v n)[i]? = some (litC c (v.getD (n + i) d0))
  | [], n, i, c, h => by simp at h
  | a :: cts, n, 0, c, h => by
    simp only [List.getElem?_cons_zero, Option.some.injEq] at h
    subst h
    rfl
  | a :: cts, n, i + 1, c, h => by
    simp only [List.getElem?_cons_succ] at h
    rw [lits, List.getElem?_cons_succ, lits_get v cts (n + 1) i c h]
    congr 3
    omega
section
variable {P : Program} {ty : Nat → Option TI}
theorem lit_args {A : An} {g : Gh} {fi : FI} {cts : List CT} {v : List DC} {vals : Array Value} {w : World} (hf : cts.all CT.flat = true)
    (hr : Rel ty A g (startSt fi ⟨cts.map fun c => .one c.k1, []⟩ v) { tmps := vals ++ Array.replicate (fi.ntmps - vals.size) undef, defers := [] } w) (hs : vals.size = cts.length) : vals = (lits cts v 0).toArray := by
  apply Array.toList_inj.1
  apply List.ext_getElem?
  intro i
  by_cases hi : i < cts.length
  · have hc : cts[i]? = some cts[i] := List.getElem?_eq_getElem hi
    have h1 := mkT_lit v cts 0 i _ hf hc
    have h2 : (startSt fi ⟨cts.map fun c => .one c.k1, []⟩ v).tm[i]? = some (.one (cts[i].k1.mk v (0 + i))) := by
      unfold startSt mkSt
      dsimp only
      rw [List.getElem?_append_left (by rw [mkT_len]; simpa using hi)]
      exact h1
    have hv : vals.toList[i]? = some (vals[i]'(by omega)) := by
      rw [Array.getElem?_toList, Array.getElem?_eq_getElem (by omega)]
    have h3 := hr.tm i _ (vals[i]'(by omega)) h2 (by
      dsimp only
      rw [Array.getElem?_append_left (by omega), Array.getElem?_eq_getElem (by omega)])
    have hfl : CT.flat cts[i] = true := List.all_eq_true.1 hf _ (List.getElem_mem hi)
    have hl := lits_get v cts 0 i _ hc
    simp only [List.toList_toArray] at hl ⊢
    rw [hv, hl]
    congr 1
    generalize cts[i] = c at h3 hfl ⊢
    cases c with
    | sl e => simp [CT.flat] at hfl
    | b => exact h3
    | i k => exact h3
    | s => exact h3
  · rw [List.getElem?_eq_none (by simp; omega), List.getElem?_eq_none (by simp [lits_len]; omega)]
theorem rkAll_ct (rcts : List CT) (i : Nat) : rkAll i (rcts.map fun c => (false, [RK.ct c])) = rcts.map CT.k1 := by
  unfold rkAll
  induction rcts with
  | nil => rfl
  | cons c cs ih =>
    rw [List.map_cons, List.flatMap_cons, List.map_cons]
    show rkK i (RK.ct c :: (cs.map fun c => (false, [RK.ct c])).flatMap Prod.snd) = _
    rw [rkK]
    show c.k1 :: rkK i _ = _
    rw [ih]
def okD : CT → DC → Bool
  | .b, .b _ => true
  | .i _, .i _ => true
  | .s, .s _ => true
  | _, _ => false
def okDs : List CT → List DC → Nat → Bool
  | [], _, _ => true
  | c :: cs, r, n => okD c (r.getD n d0) && okDs cs r (n + 1)
theorem lit_res {A : An} {rcts : List CT} {r : List DC} {w' : World} (hf : okDs rcts r 0 = true) (hA : A.m = 0) (hk : Keep A w') : Res ty A [] (rcts.map fun c => (false, [RK.ct c])) r (lits rcts r 0) w' := by
  refine ⟨⟨⟨fun _ => False, fun _ => 0, fun _ => undef⟩, [], [], lits rcts r 0, [], ?_, rfl, ?_, ?_, fun b h => h.elim, fun j hj => by omega, fun j hj => by omega⟩, hk⟩
  · have : ∀ (cs : List CT) (n : Nat), RVs (cs.map fun c => (false, [RK.ct c])) (lits cs r n) (lits cs r n) := by
      intro cs
      induction cs with
      | nil => intro n; rfl
      | cons c cs ih => intro n; exact ⟨[litC c (r.getD n d0)], lits cs r (n + 1), rfl, rfl, fun h => absurd h (by simp), fun _ => rfl, ih (n + 1)⟩
    exact this rcts 0
  · rw [rkAll_ct, List.flatMap_nil, List.append_nil, List.append_nil]
    have : ∀ (cs : List CT) (n : Nat), okDs cs r n = true → FL ty A ⟨fun _ => False, fun _ => 0, fun _ => undef⟩ [] [] w' r n (cs.map CT.k1) (lits cs r n) := by
      intro cs
      induction cs with
      | nil => intro n _; trivial
      | cons c cs ih =>
        intro n hc
        simp only [okDs, Bool.and_eq_true] at hc
        have hcnt : c.k1.cnt = 1 := by cases c <;> rfl
        rw [List.map_cons, lits]
        refine ⟨⟨[r.getD n d0], by rw [hcnt]; rfl, fun i hi => ?_, ?_⟩, ?_⟩
        · rw [hcnt] at hi
          have : i = 0 := by omega
          subst this
          rfl
        · have h1 := hc.1
          cases c with
          | b => cases hd : r.getD n d0 <;> rw [hd] at h1 <;> simp [okD] at h1; exact ⟨_, rfl, rfl⟩
          | i k => cases hd : r.getD n d0 <;> rw [hd] at h1 <;> simp [okD] at h1; exact ⟨_, rfl, rfl⟩
          | s => cases hd : r.getD n d0 <;> rw [hd] at h1 <;> simp [okD] at h1; exact ⟨_, rfl, rfl⟩
          | sl e => simp [okD] at h1
        · rw [hcnt]
          exact ih (n + 1) hc.2
    exact this rcts 0 hf
  · rw [rkAll_ct, List.flatMap_nil, List.append_nil, List.append_nil]
    have : ∀ (cs : List CT) (us : List Value), Apart (cs.map CT.k1) us := by
      intro cs
      induction cs with
      | nil => intro us; cases us <;> trivial
      | cons c cs ih =>
        intro us
        cases us with
        | nil => cases c <;> trivial
        | cons u us => cases c <;> exact ih us
    exact this rcts _
def primH (cts rcts : List CT) (q : List DC → Option (List DC)) : Hint → List DC → Option (List DC) := fun h v => if hintLit cts h = true then (match q v with | some r => if okDs rcts r 0 = true then some r else none | none => none) else none
theorem prim_lit {G : Glob} {f : Nat} {fi : FI} {fd : Func} {cts rcts : List CT} {q : List DC → Option (List DC)} (h1 : P.funcs[f]? = some fd) (h2 : (fd.name == "runtime.NumGoroutine") = false) (h3 : fd.body.isNone = false)
    (hrk : fi.rk = rcts.map fun c => (false, [RK.ct c])) (hp : fi.prim = some fun h v => if hintLit cts h = true then (match q v with | some r => if okDs rcts r 0 = true then some r else none | none => none) else none)
    (hq : ∀ v r w, q v = some r → G.ok w → Calls P f (lits cts v 0).toArray w fun e w' => e = .returned (resVal (lits rcts r 0)) ∧ RowKit.Below w.heap.size w w') : FnOk P G ty f fi := by
  refine ⟨⟨fd, h1, h2, h3, fun h => by rw [hp] at h; simp at h⟩, fun p hpp h v r e => ?_⟩
  rw [hp] at hpp
  simp only [Option.some.injEq] at hpp
  subst hpp
  dsimp only at e
  split at e
  · rename_i hh
    cases hqv : q v with
    | none => rw [hqv] at e; simp at e
    | some r' =>
      rw [hqv] at e
      dsimp only at e
      split at e
      · rename_i hok
        simp only [Option.some.injEq] at e
        subst e
        unfold hintLit at hh
        rw [Bool.and_eq_true] at hh
        obtain ⟨k1, k2⟩ := hh
        have hob : h.ob = [] := by
          cases ho : h.ob with
          | nil => rfl
          | cons a l => rw [ho] at k2; simp at k2
        have htm := tmIs_eq k1
        have hflat := tmIs_flat k1
        obtain ⟨tm, ob⟩ := h
        dsimp only at hob htm k1
        subst hob htm
        intro A g vals w hA hr hs hw hm
        have hvals := lit_args hflat hr (by simpa using hs)
        subst hw
        have hc := hq v r' A.w0 hqv hA.1
        rw [← hvals] at hc
        refine Calls.mono hc fun en w' hen => ?_
        obtain ⟨rfl, bel⟩ := hen
        refine ⟨_, rfl, ?_⟩
        rw [hrk]
        refine lit_res hok (by rw [hm]; rfl) ⟨bel.os, bel.tape, bel.output, bel.size, fun b hb _ _ => bel.block b hb⟩
      · simp at e
  · simp at e
end
end Go.Proofs.QV

namespace Go.Proofs
open Go.Shelf Go.RowKit Go.Lib
variable {P : Program} {ρ : Ren}
def eE : ByteArray := ⟨#[101, 69]⟩
theorem below_iter (w : World) (s : ByteArray) (p : Nat) : Below w.heap.size w (w.iter s p) := by
  have hs : (w.iter s p).heap = w.heap.push (.stringIter s p) := rfl
  exact ⟨rfl, rfl, rfl, by rw [hs]; simp, fun b hb => by rw [hs, Array.getElem?_push, if_neg (by omega)]⟩
set_option maxHeartbeats 2000000 in
set_option maxRecDepth 1000000 in
theorem IndexRune_ee_err (L : Lays.n152 P ρ) (w : World) :
    Calls P (ρ.f 152) #[.string eE, .int .i32 65533] w fun e w' => e = .returned (.int .i64 (-1)) ∧ Below w.heap.size w w' := by
  have t3 := L.t3; have a3 := L.a3; have z3 := L.z3; have v3 := L.v3
  have t4 := L.t4; have a4 := L.a4; have z4 := L.z4; have v4 := L.v4
  have t5 := L.t5; have a5 := L.a5; have z5 := L.z5; have v5 := L.v5
  have t9 := L.t9; have a9 := L.a9; have z9 := L.z9; have v9 := L.v9
  have t21 := L.t21; have a21 := L.a21; have z21 := L.z21; have v21 := L.v21
  have n0 := fun ty => run_next_ascii (P := P) w eE 0 ty (by decide) (by decide)
  have n1 := fun ty => run_next_ascii (P := P) w eE 1 ty (by decide) (by decide)
  have n2 := fun ty => run_next_end (P := P) w eE 2 ty (by decide)
  go_enter L.f152, Body.n152_ntmps ρ
  go_wp2
  go_loopg [5, 6] 2 (fun g _ _ wx => ∃ i : Nat, i + g = 2 ∧ wx = w.iter eE i)
  case atStart => exact ⟨0, rfl, rfl⟩
  case round =>
    obtain ⟨i, hig, rfl⟩ := hrel
    cases gk with
    | zero =>
      obtain rfl : i = 2 := by omega
      go_wp2
      go_ret
      exact ⟨rfl, below_iter _ _ _⟩
    | succ g =>
      rcases Nat.lt_or_ge 0 i with h | h
      · obtain rfl : i = 1 := by omega
        have e1 : ((eE[1]'(by decide)).toNat : Int) = 69 := by decide
        simp only [e1] at n1
        go_wp2
        go_roundg g
        case measure => omega
        case rel => exact ⟨2, by omega, rfl⟩
      · obtain rfl : i = 0 := by omega
        have e0 : ((eE[0]'(by decide)).toNat : Int) = 101 := by decide
        simp only [e0] at n0
        go_wp2
        go_roundg g
        case measure => omega
        case rel => exact ⟨1, by omega, rfl⟩
set_option maxHeartbeats 2000000 in
set_option maxRecDepth 1000000 in
theorem IndexRune_ee_big (L : Lays.n152 P ρ) (r : Int) (w : World) (h0 : 128 ≤ r) (h1 : ¬ r = 65533) (h2 : Lib.validRune r = true) (h3 : 3 ≤ (Utf8.encode r).size) (h4 : (Utf8.encode r).size ≤ 4) :
    Calls P (ρ.f 152) #[.string eE, .int .i32 r] w fun e w' => e = .returned (.int .i64 (-1)) ∧ Below w.heap.size w w' := by
  have t3 := L.t3; have a3 := L.a3; have z3 := L.z3; have v3 := L.v3
  have t4 := L.t4; have a4 := L.a4; have z4 := L.z4; have v4 := L.v4
  have t5 := L.t5; have a5 := L.a5; have z5 := L.z5; have v5 := L.v5
  have t9 := L.t9; have a9 := L.a9; have z9 := L.z9; have v9 := L.v9
  have t21 := L.t21; have a21 := L.a21; have z21 := L.z21; have v21 := L.v21
  have hlt : decide (r < 128) = false := decide_eq_false (by omega)
  have hge : decide (0 ≤ r) = true := decide_eq_true (by omega)
  have hne : (r == 65533) = false := beq_eq_false_iff_ne.2 h1
  have e119 : ∀ args w, (callFunc (ρ.f 119) args).run P w = .ok (.enter (ρ.f 119) args) w := enters_of L.f119 (by kernel_rfl) rfl
  have e137 : ∀ args w, (callFunc (ρ.f 137) args).run P w = .ok (.enter (ρ.f 137) args) w := enters_of L.f137 (by kernel_rfl) rfl
  go_enter L.f152, Body.n152_ntmps ρ
  go_wp2_with (go_at_fn (ρ.f 119); refine (Any.utf8_ValidRune { L with } _ _).mono ?_; rintro e w' ⟨rfl, hw⟩; rw [hw, h2])
  have u21s : (P.underlying (ρ.t 21)).isSome = true := by rw [t21]; rfl
  have hw3 : (Utf8.encode r).size = 3 ∨ (Utf8.encode r).size = 4 := by omega
  go_step3
  go_wp2
  have hc : decide (((Utf8.encode r).size : Int) - 1 < (eE.size : Int)) = false := decide_eq_false (by have : (eE.size : Int) = 2 := rfl; omega)
  go_loopg [9] 1 (fun g x wx => g = 1 ∧ x = Value.int .i64 (((Utf8.encode r).size : Int) - 1) ∧ wx = w)
  case atStart => exact ⟨rfl, rfl, rfl⟩
  case round =>
    obtain ⟨_, rfl, rfl⟩ := hrel
    go_wp2
    rw [Exit.noGoto_ret]
    go_ret
    exact ⟨rfl, Below.refl _ _⟩
set_option maxHeartbeats 2000000 in
set_option maxRecDepth 1000000 in
theorem IndexRune_ee_two (L : Lays.n152 P ρ) (r : Int) (w : World) (h0 : 128 ≤ r) (h1 : ¬ r = 65533) (h2 : Lib.validRune r = true) (h3 : (Utf8.encode r).size = 2) :
    Calls P (ρ.f 152) #[.string eE, .int .i32 r] w fun e w' => e = .returned (.int .i64 (-1)) ∧ Below w.heap.size w w' := by
  have mixed := L.mixed
  have t3 := L.t3; have a3 := L.a3; have z3 := L.z3; have v3 := L.v3
  have t4 := L.t4; have a4 := L.a4; have z4 := L.z4; have v4 := L.v4
  have t5 := L.t5; have a5 := L.a5; have z5 := L.z5; have v5 := L.v5
  have t9 := L.t9; have a9 := L.a9; have z9 := L.z9; have v9 := L.v9
  have t21 := L.t21; have a21 := L.a21; have z21 := L.z21; have v21 := L.v21
  have h2' := h2
  have hlt : decide (r < 128) = false := decide_eq_false (by omega)
  have hge : decide (0 ≤ r) = true := decide_eq_true (by omega)
  have hne : (r == 65533) = false := beq_eq_false_iff_ne.2 h1
  have e119 : ∀ args w, (callFunc (ρ.f 119) args).run P w = .ok (.enter (ρ.f 119) args) w := enters_of L.f119 (by kernel_rfl) rfl
  have e137 : ∀ args w, (callFunc (ρ.f 137) args).run P w = .ok (.enter (ρ.f 137) args) w := enters_of L.f137 (by kernel_rfl) rfl
  go_enter L.f152, Body.n152_ntmps ρ
  go_wp2_with (go_at_fn (ρ.f 119); refine (Any.utf8_ValidRune { L with } _ _).mono ?_; rintro e w' ⟨rfl, hw⟩; rw [hw, h2])
  have u21s : (P.underlying (ρ.t 21)).isSome = true := by rw [t21]; rfl
  go_step3
  go_wp2
  have iE : ∀ w : World, (Instr.index (ρ.t 9) (.string eE) (.int .i64 1)).run P w = .ok (.int .u8 69) w := fun w => by
    rw [run_index_string w (ρ.t 9) eE .i64 1 t9, dif_pos (by decide)]; rfl
  obtain ⟨B, hB, iR⟩ : ∃ B : UInt8, 128 ≤ B.toNat ∧ ∀ w : World, (Instr.index (ρ.t 9) (.string (Utf8.encode r)) (.int .i64 1)).run P w = .ok (.int .u8 (B.toNat : Int)) w := by
    have hf := (encode_facts r (by rw [validRune_eq]; exact h2') h0).2.2 (by omega)
    refine ⟨(Utf8.encode r)[1]'(by omega), ?_, fun w => ?_⟩
    · have e : (Utf8.encode r)[(Utf8.encode r).size - 1]'(by omega) = (Utf8.encode r)[1]'(by omega) := by congr 1; omega
      rw [← e]; exact hf
    · rw [run_index_string w (ρ.t 9) _ .i64 1 t9, dif_pos (by omega)]; rfl
  have hne1 : ((69 : Int) == (B.toNat : Int)) = false := beq_eq_false_iff_ne.2 (by omega)
  have hback : ((B.toNat : Int)).toNat.toUInt8 = B := by simp
  have hib : Lib.indexByte (eE.extract 2 eE.size).data.toList B = -1 := by
    have : (eE.extract 2 eE.size).data.toList = [] := by decide
    rw [this]; rfl
  have hc : decide ((1 : Int) < (eE.size : Int)) = true := by decide
  have hw2 : IntKind.i64.wrap 2 = 2 := by decide
  have hle2 : (0 : Int) ≤ 2 ∧ (2 : Int) ≤ (eE.size : Int) := by decide
  go_loopg [9] 1 (fun g x wx => g = 1 ∧ x = Value.int .i64 1 ∧ wx = w)
  case atStart => exact ⟨rfl, rfl, rfl⟩
  case round =>
    obtain ⟨_, rfl, rfl⟩ := hrel
    go_wp2
    go_step3
    go_wp2
    go_region_o
    go_wp2
    go_region_with_o (go_at_fn (ρ.f 137); refine (Any.strings_IndexByte { L with } _ _ _).mono ?_; rintro e w' ⟨rfl, hw⟩; rw [hw, hback])
    go_wp2
    rw [Exit.noGoto_ret]
    go_wp2
    rw [Exit.noGoto_ret]
    go_ret
    exact ⟨rfl, ((Below.refl _ _).drew).drew⟩
def irE (r : Int) : Int := if r < 128 then Lib.indexByte eE.data.toList r.toNat.toUInt8 else -1
theorem IndexRune_ee (L : Lays.n152 P ρ) (r : Int) (w : World) (h0 : 0 ≤ r) (h2 : Lib.validRune r = true) :
    Calls P (ρ.f 152) #[.string eE, .int .i32 r] w fun e w' => e = .returned (.int .i64 (irE r)) ∧ Below w.heap.size w w' := by
  by_cases h : r < 128
  · refine (Any.strings_IndexRune_ascii L eE r w h0 h).mono ?_
    rintro e w' ⟨rfl, hw⟩
    rw [hw]
    exact ⟨by rw [irE, if_pos h], Below.refl _ _⟩
  · have e : irE r = -1 := by rw [irE, if_neg h]
    rw [e]
    by_cases h1 : r = 65533
    · subst h1; exact IndexRune_ee_err L w
    · have hf := encode_facts r (by rw [validRune_eq]; exact h2) (by omega)
      by_cases h3 : (Utf8.encode r).size = 2
      · exact IndexRune_ee_two L r w (by omega) h1 h2 h3
      · exact IndexRune_ee_big L r w (by omega) h1 h2 (by omega) (by omega)
theorem run_next_gen (w : World) (b : Nat) (s : ByteArray) (pos : Nat) (ty : TypeId) (hb : w.heap[b]? = some (.stringIter s pos)) (h : pos < s.size) :
    (Instr.next (.pointer (some ⟨b, 0, none⟩)) true ty).run P w =
      .ok (.tuple #[.bool true, .int .i64 pos, .int .i32 (Utf8.decode s pos).1]) { w with heap := w.heap.setIfInBounds b (.stringIter s (pos + (Utf8.decode s pos).2)) } := by
  simp only [Instr.next, getObj, setObj, Sem.run_bind, Sem.run, hb, Result.andThen, h, if_true]
  simp [goInt]
theorem run_next_gend (w : World) (b : Nat) (s : ByteArray) (pos : Nat) (ty : TypeId) (hb : w.heap[b]? = some (.stringIter s pos)) (h : ¬ pos < s.size) :
    (Instr.next (.pointer (some ⟨b, 0, none⟩)) true ty).run P w = .ok (.tuple #[.bool false]) w := by
  simp [Instr.next, getObj, Sem.run, hb, h]
theorem decodeN_wide (n b0 b1 b2 b3 : Nat) (hn : 0 < n) : 1 ≤ (Lib.decodeN n b0 b1 b2 b3).2 ∧ (Lib.decodeN n b0 b1 b2 b3).2 ≤ n ∧ (Lib.decodeN n b0 b1 b2 b3).2 ≤ 4 ∧ (1 < (Lib.decodeN n b0 b1 b2 b3).2 → 128 ≤ b1) ∧ (2 < (Lib.decodeN n b0 b1 b2 b3).2 → 128 ≤ b2) ∧ (3 < (Lib.decodeN n b0 b1 b2 b3).2 → 128 ≤ b3) ∧ (b0 < 128 → (Lib.decodeN n b0 b1 b2 b3).1 = b0) ∧ (128 ≤ b0 → 128 ≤ (Lib.decodeN n b0 b1 b2 b3).1) := by
  unfold Lib.decodeN
  repeat' split
  all_goals (refine ⟨?_, ?_, ?_, ?_, ?_, ?_, ?_, ?_⟩ <;> intros <;> (first | rfl | (simp only at *; omega)))
theorem get!_at (s : ByteArray) (i : Nat) (h : i < s.size) : s.data.toList[i]? = some (s.get! i) := by
  rw [Lib.data_getElem? s i h]
  congr 1
  exact (get_at s i h).symm.trans (by rw [Nat.add_zero])
theorem eE_contains (x : UInt8) (h : 128 ≤ x.toNat) : eE.data.toList.contains x = false := by
  have e : eE.data.toList = [101, 69] := rfl
  rw [e]
  have h1 : (x == 101) = false := beq_eq_false_iff_ne.2 (by rintro rfl; exact absurd h (by decide))
  have h2 : (x == 69) = false := beq_eq_false_iff_ne.2 (by rintro rfl; exact absurd h (by decide))
  simp only [List.contains, List.elem, h1, h2]
theorem noAny_skip {s : ByteArray} {i : Nat} (hno : Lib.NoAny s.data.toList eE.data.toList i) (hi : i < s.size) (h0 : eE.data.toList.contains (s.get! i) = false) :
    Lib.NoAny s.data.toList eE.data.toList (i + (Utf8.decode s i).2) := by
  have hw := decodeN_wide (s.size - i) (s.get! i).toNat (s.get! (i + 1)).toNat (s.get! (i + 2)).toNat (s.get! (i + 3)).toNat (by omega)
  rw [← Lib.decode_at] at hw
  intro j b hj hb
  by_cases h : j < i
  · exact hno j b h hb
  · have hjs : j < s.size := by omega
    rw [get!_at s j hjs] at hb
    injection hb with hb
    subst hb
    obtain ⟨k, rfl⟩ : ∃ k, j = i + k := ⟨j - i, by omega⟩
    rcases k with _ | _ | _ | _ | k
    · exact h0
    · exact eE_contains _ (hw.2.2.2.1 (by omega))
    · exact eE_contains _ (hw.2.2.2.2.1 (by omega))
    · exact eE_contains _ (hw.2.2.2.2.2.1 (by omega))
    · omega
theorem below_setIter {w wx : World} {b : Nat} {o : Obj} (hw : Below b w wx) : Below b w { wx with heap := wx.heap.setIfInBounds b o } := by
  refine ⟨hw.os, hw.tape, hw.output, ?_, fun k hk => ?_⟩
  · show w.heap.size ≤ (wx.heap.setIfInBounds b o).size
    rw [Array.size_setIfInBounds]; exact hw.size
  · show (wx.heap.setIfInBounds b o)[k]? = _
    rw [Array.getElem?_setIfInBounds, if_neg (by omega)]
    exact hw.block k hk
theorem irE_hit (s : ByteArray) (i : Nat) (hi : i < s.size) (h : eE.data.toList.contains (s.get! i) = true) : (0 : Int) ≤ irE (Utf8.decode s i).1 := by
  have hw := decodeN_wide (s.size - i) (s.get! i).toNat (s.get! (i + 1)).toNat (s.get! (i + 2)).toNat (s.get! (i + 3)).toNat (by omega)
  rw [← Lib.decode_at] at hw
  have hx : (s.get! i).toNat < 128 := by
    rcases Nat.lt_or_ge (s.get! i).toNat 128 with h' | h'
    · exact h'
    · rw [eE_contains _ h'] at h; cases h
  have hr := hw.2.2.2.2.2.2.1 hx
  have hcon := Lib.contains_iff_indexByte eE.data.toList (s.get! i)
  rw [h] at hcon
  rw [hr, irE, if_pos (by omega)]
  have e : ((((s.get! i).toNat : Nat) : Int)).toNat.toUInt8 = s.get! i := by simp
  rw [e]
  exact of_decide_eq_true hcon.symm
theorem irE_no (s : ByteArray) (i : Nat) (hi : i < s.size) (h : eE.data.toList.contains (s.get! i) = false) : ¬ (0 : Int) ≤ irE (Utf8.decode s i).1 := by
  have hw := decodeN_wide (s.size - i) (s.get! i).toNat (s.get! (i + 1)).toNat (s.get! (i + 2)).toNat (s.get! (i + 3)).toNat (by omega)
  rw [← Lib.decode_at] at hw
  have hcon := Lib.contains_iff_indexByte eE.data.toList (s.get! i)
  rw [h] at hcon
  unfold irE
  split
  · rename_i hr
    have hx : (s.get! i).toNat < 128 := by
      rcases Nat.lt_or_ge (s.get! i).toNat 128 with h' | h'
      · exact h'
      · have := hw.2.2.2.2.2.2.2 h'; omega
    have hr := hw.2.2.2.2.2.2.1 hx
    rw [hr]
    have e : ((((s.get! i).toNat : Nat) : Int)).toNat.toUInt8 = s.get! i := by simp
    rw [e]
    exact of_decide_eq_false hcon.symm
  · omega
set_option maxHeartbeats 8000000 in
set_option maxRecDepth 1000000 in
theorem IndexAny_ee_short (L : Lays.n153 P ρ) (s : ByteArray) (w : World) (h8 : s.size ≤ 8) :
    Calls P (ρ.f 153) #[.string s, .string eE] w fun e w' => e = .returned (.int .i64 (Lib.indexAny s.data.toList eE.data.toList)) ∧ Below w.heap.size w w' := by
  have hemp : eE.toList.isEmpty = false := by rw [Lib.toList_data]; rfl
  have hn1 : ((eE.size : Int) == 1) = false := by decide
  have h8z : decide ((8 : Int) < (s.size : Int)) = false := decide_eq_false (by omega)
  have t3 := L.t3; have a3 := L.a3; have z3 := L.z3; have v3 := L.v3
  have t4 := L.t4; have a4 := L.a4; have z4 := L.z4; have v4 := L.v4
  have t5 := L.t5; have a5 := L.a5; have z5 := L.z5; have v5 := L.v5
  have t9 := L.t9; have a9 := L.a9; have z9 := L.z9; have v9 := L.v9
  have t21 := L.t21; have a21 := L.a21; have z21 := L.z21; have v21 := L.v21
  have e152 : ∀ args w, (callFunc (ρ.f 152) args).run P w = .ok (.enter (ρ.f 152) args) w := enters_of L.f152 (by kernel_rfl) rfl
  have e226 : ∀ args w, (callFunc (ρ.f 226) args).run P w = .ok (.enter (ρ.f 226) args) w := enters_of L.f226 (by kernel_rfl) rfl
  go_enter L.f153, Body.n153_ntmps ρ
  go_wp2_with (go_at_fn (ρ.f 226); refine (Any.strings_shouldUseASCIISet { L with } _ _).mono ?_; rintro e w' ⟨rfl, hw⟩; rw [hw, h8z])
  go_loopg [9, 10] s.size (fun g _ _ wx => ∃ i : Nat, i + g = s.size ∧ wx.heap[w.heap.size]? = some (.stringIter s i) ∧ Below w.heap.size w wx ∧ Lib.NoAny s.data.toList eE.data.toList i)
  case atStart => exact ⟨0, by omega, World.iter_heap _ _ _, below_iter _ _ _, Lib.NoAny.zero _ _⟩
  case round =>
    obtain ⟨i, hig, hit, hbl, hno⟩ := hrel
    have HN : Aside (Lib.NoAny s.data.toList eE.data.toList i) := hno
    clear hno
    cases gk with
    | zero =>
      obtain rfl : i = s.size := by omega
      have hnx := fun ty => run_next_gend (P := P) wr w.heap.size s s.size ty hit (by omega)
      go_wp2
      go_ret
      exact ⟨by rw [Lib.indexAny_none (by rw [← Lib.size_eq]; exact HN.out)]; rfl, hbl⟩
    | succ g =>
      have hi : i < s.size := by omega
      have hnx := fun ty => run_next_gen (P := P) wr w.heap.size s i ty hit hi
      have hwd := decodeN_wide (s.size - i) (s.get! i).toNat (s.get! (i + 1)).toNat (s.get! (i + 2)).toNat (s.get! (i + 3)).toNat (by omega)
      rw [← Lib.decode_at] at hwd
      have hW1 := hwd.1
      have hW2 := hwd.2.1
      have hrv : Lib.validRune ((Utf8.decode s i).1 : Int) = true := by
        have h := Lib.decodeN_valid (s.size - i) (s.get! i).toNat (s.get! (i + 1)).toNat (s.get! (i + 2)).toNat (s.get! (i + 3)).toNat (UInt8.toNat_lt _)
        rw [← Lib.decode_at] at h
        simp only [Lib.validRune, decide_eq_true_eq]
        omega
      have HR : Aside (Lib.validRune ((Utf8.decode s i).1 : Int) = true) := hrv
      have hbl2 : Below w.heap.size w { wr with heap := wr.heap.setIfInBounds w.heap.size (.stringIter s (i + (Utf8.decode s i).2)) } := below_setIter hbl
      have hit2 : ({ wr with heap := wr.heap.setIfInBounds w.heap.size (.stringIter s (i + (Utf8.decode s i).2)) } : World).heap[w.heap.size]? = some (.stringIter s (i + (Utf8.decode s i).2)) := by
        have : w.heap.size < wr.heap.size := (Array.getElem?_eq_some_iff.1 hit).1
        show (wr.heap.setIfInBounds w.heap.size _)[w.heap.size]? = _
        rw [Array.getElem?_setIfInBounds, if_pos rfl, if_pos this]
      generalize hw2 : ({ wr with heap := wr.heap.setIfInBounds w.heap.size (.stringIter s (i + (Utf8.decode s i).2)) } : World) = w2 at *
      clear hw2 hwd hrv
      cases hin : eE.data.toList.contains (s.get! i)
      · have hlt := irE_no s i hi hin
        have hstep := noAny_skip HN.out hi hin
        have HS : Aside (Lib.NoAny s.data.toList eE.data.toList (i + (Utf8.decode s i).2)) := hstep
        clear hstep hin
        generalize hr : (Utf8.decode s i).1 = r at *
        generalize hwi : (Utf8.decode s i).2 = wi at *
        go_wp2_with (go_at_fn (ρ.f 152); refine (IndexRune_ee { L with } _ _ (by omega) HR.out).mono ?_; rintro e w3 ⟨rfl, hb3⟩)
        go_roundg (g + 1 - wi)
        case measure => omega
        case rel =>
          refine ⟨i + wi, by omega, ?_, ?_, HS.out⟩
          · rw [hb3.block _ (Array.getElem?_eq_some_iff.1 hit2).1]; exact hit2
          · exact hbl2.trans (hb3.mono hbl2.size)
      · have hge := irE_hit s i hi hin
        have HX : Aside (Lib.indexAny s.data.toList eE.data.toList = (i : Int)) := Lib.indexAny_hit HN.out (get!_at s i hi) hin
        clear hin
        generalize hr : (Utf8.decode s i).1 = r at *
        generalize hwi : (Utf8.decode s i).2 = wi at *
        go_wp2_with (go_at_fn (ρ.f 152); refine (IndexRune_ee { L with } _ _ (by omega) HR.out).mono ?_; rintro e w3 ⟨rfl, hb3⟩)
        go_ret
        exact ⟨by rw [HX.out]; rfl, hbl2.trans (hb3.mono hbl2.size)⟩
theorem IndexAny_ee (L : Lays.n153 P ρ) (hv116 : ∀ w, (zeroValue (ρ.t 116)).run P w = .ok (.agg (Array.replicate 256 (.bool false))) w) (hi116 : (P.info? (ρ.t 116)).map (·.size) = some 256) (s : ByteArray) (w : World) (hs : s.size < 4294967281) :
    Calls P (ρ.f 153) #[.string s, .string eE] w fun e w' => e = .returned (.int .i64 (Lib.indexAny s.data.toList [101, 69])) ∧ Below w.heap.size w w' := by
  rcases Nat.lt_or_ge 8 s.size with h | h
  · refine (Any.strings_IndexAny_long L hv116 hi116 s eE w (by decide) h hs (by decide) ?_).mono ?_
    · intro j b hj
      have e : eE.data.toList = [101, 69] := rfl
      rw [e] at hj
      rcases j with _ | _ | j
      · injection hj with hj; subst hj; decide
      · injection hj with hj; subst hj; decide
      · simp at hj
    · rintro e w' ⟨rfl, hw⟩
      subst hw
      exact ⟨rfl, ((Below.refl _ _).alloc (Nat.le_refl _) _).alloc (by show w.heap.size ≤ (w.heap.push _).size; rw [Array.size_push]; omega) _⟩
  · exact IndexAny_ee_short L s w h
#print axioms IndexAny_ee
end Go.Proofs

namespace Go.Proofs
open Go.Shelf
def Tryz.lays153_ren : Go.Shelf.Ren := ⟨fun | 153 => 236 | 152 => 221 | 226 => 239 | 227 => 193 | 228 => 211 | 137 => 125 | 119 => 232 | 224 => 224 | 225 => 223 | 217 => 165 | 266 => 190 | n => n, fun | 9 => 9 | 3 => 3 | 4 => 4 | 5 => 5 | 21 => 21 | 117 => 236 | 116 => 235 | 0 => 0 | 46 => 177 | 124 => 239 | n => n, fun | n => n⟩
theorem Tryz.lays153 : Go.Proofs.Lays.n153 Tryz.prog Tryz.lays153_ren := {
  mixed := by kernel_rfl,
  f119 := Tryz.func232.trans (congrArg some (by kernel_rfl)),
  f137 := Tryz.func125.trans (congrArg some (by kernel_rfl)),
  f152 := Tryz.func221.trans (congrArg some (by kernel_rfl)),
  f153 := Tryz.func236.trans (congrArg some (by kernel_rfl)),
  f217 := Tryz.func165.trans (congrArg some (by kernel_rfl)),
  f224 := Tryz.func224.trans (congrArg some (by kernel_rfl)),
  f225 := Tryz.func223.trans (congrArg some (by kernel_rfl)),
  f226 := Tryz.func239.trans (congrArg some (by kernel_rfl)),
  f227 := Tryz.func193.trans (congrArg some (by kernel_rfl)),
  f228 := Tryz.func211.trans (congrArg some (by kernel_rfl)),
  f266 := Tryz.func190.trans (congrArg some (by kernel_rfl)),
  t0 := Tryz.underlying0,
  a0 := Tryz.isAgg0,
  z0 := Tryz.sizeOf0,
  v0 := Tryz.zeroValue0,
  t3 := Tryz.underlying3,
  a3 := Tryz.isAgg3,
  z3 := Tryz.sizeOf3,
  v3 := Tryz.zeroValue3,
  t4 := Tryz.underlying4,
  a4 := Tryz.isAgg4,
  z4 := Tryz.sizeOf4,
  v4 := Tryz.zeroValue4,
  t5 := Tryz.underlying5,
  a5 := Tryz.isAgg5,
  z5 := Tryz.sizeOf5,
  v5 := Tryz.zeroValue5,
  t9 := Tryz.underlying9,
  a9 := Tryz.isAgg9,
  z9 := Tryz.sizeOf9,
  v9 := Tryz.zeroValue9,
  t21 := Tryz.underlying21,
  a21 := Tryz.isAgg21,
  z21 := Tryz.sizeOf21,
  v21 := Tryz.zeroValue21,
  t46 := Tryz.underlying177,
  a46 := Tryz.isAgg177,
  z46 := Tryz.sizeOf177,
  v46 := Tryz.zeroValue177,
  t116 := Tryz.underlying235,
  a116 := Tryz.isAgg235,
  z116 := Tryz.sizeOf235,
  t117 := Tryz.underlying236,
  a117 := Tryz.isAgg236,
  z117 := Tryz.sizeOf236,
  v117 := Tryz.zeroValue236,
  t124 := Tryz.underlying239,
  a124 := Tryz.isAgg239,
  z124 := Tryz.sizeOf239,
  v124 := Tryz.zeroValue239 }
def Tryz.lays196_ren : Go.Shelf.Ren := ⟨fun | 196 => 164 | 259 => 189 | n => n, fun | 9 => 9 | 4 => 4 | 3 => 3 | 5 => 5 | 12 => 12 | 119 => 229 | 0 => 0 | 46 => 177 | 139 => 232 | 138 => 231 | 53 => 253 | n => n, fun | 3 => 0 | 4 => 1 | n => n⟩
theorem Tryz.lays196 : Go.Proofs.Lays.n196 Tryz.prog Tryz.lays196_ren := {
  mixed := by kernel_rfl,
  f196 := Tryz.func164.trans (congrArg some (by kernel_rfl)),
  f259 := Tryz.func189.trans (congrArg some (by kernel_rfl)),
  t0 := Tryz.underlying0,
  a0 := Tryz.isAgg0,
  z0 := Tryz.sizeOf0,
  v0 := Tryz.zeroValue0,
  t3 := Tryz.underlying3,
  a3 := Tryz.isAgg3,
  z3 := Tryz.sizeOf3,
  v3 := Tryz.zeroValue3,
  t4 := Tryz.underlying4,
  a4 := Tryz.isAgg4,
  z4 := Tryz.sizeOf4,
  v4 := Tryz.zeroValue4,
  t5 := Tryz.underlying5,
  a5 := Tryz.isAgg5,
  z5 := Tryz.sizeOf5,
  v5 := Tryz.zeroValue5,
  t9 := Tryz.underlying9,
  a9 := Tryz.isAgg9,
  z9 := Tryz.sizeOf9,
  v9 := Tryz.zeroValue9,
  t12 := Tryz.underlying12,
  a12 := Tryz.isAgg12,
  z12 := Tryz.sizeOf12,
  v12 := Tryz.zeroValue12,
  t46 := Tryz.underlying177,
  a46 := Tryz.isAgg177,
  z46 := Tryz.sizeOf177,
  v46 := Tryz.zeroValue177,
  t53 := Tryz.underlying253,
  a53 := Tryz.isAgg253,
  z53 := Tryz.sizeOf253,
  v53 := Tryz.zeroValue253,
  t119 := Tryz.underlying229,
  a119 := Tryz.isAgg229,
  z119 := Tryz.sizeOf229,
  t138 := Tryz.underlying231,
  a138 := Tryz.isAgg231,
  z138 := Tryz.sizeOf231,
  v138 := Tryz.zeroValue231,
  t139 := Tryz.underlying232,
  a139 := Tryz.isAgg232,
  z139 := Tryz.sizeOf232,
  v139 := Tryz.zeroValue232,
  g3 := by kernel_rfl,
  g4 := by kernel_rfl }
def Tryz.lays220_ren : Go.Shelf.Ren := ⟨fun | 220 => 240 | 219 => 215 | 217 => 165 | 225 => 223 | 224 => 224 | 267 => 225 | 266 => 190 | 314 => 233 | n => n, fun | 9 => 9 | 4 => 4 | 3 => 3 | 5 => 5 | 46 => 177 | 146 => 263 | 51 => 262 | n => n, fun | 1 => 2 | n => n⟩
theorem Tryz.lays220 : Go.Proofs.Lays.n220 Tryz.prog Tryz.lays220_ren := {
  mixed := by kernel_rfl,
  f217 := Tryz.func165.trans (congrArg some (by kernel_rfl)),
  f219 := Tryz.func215.trans (congrArg some (by kernel_rfl)),
  f220 := Tryz.func240.trans (congrArg some (by kernel_rfl)),
  f224 := Tryz.func224.trans (congrArg some (by kernel_rfl)),
  f225 := Tryz.func223.trans (congrArg some (by kernel_rfl)),
  f266 := Tryz.func190.trans (congrArg some (by kernel_rfl)),
  f267 := Tryz.func225.trans (congrArg some (by kernel_rfl)),
  f314 := Tryz.func233.trans (congrArg some (by kernel_rfl)),
  t3 := Tryz.underlying3,
  a3 := Tryz.isAgg3,
  z3 := Tryz.sizeOf3,
  v3 := Tryz.zeroValue3,
  t4 := Tryz.underlying4,
  a4 := Tryz.isAgg4,
  z4 := Tryz.sizeOf4,
  v4 := Tryz.zeroValue4,
  t5 := Tryz.underlying5,
  a5 := Tryz.isAgg5,
  z5 := Tryz.sizeOf5,
  v5 := Tryz.zeroValue5,
  t9 := Tryz.underlying9,
  a9 := Tryz.isAgg9,
  z9 := Tryz.sizeOf9,
  v9 := Tryz.zeroValue9,
  t46 := Tryz.underlying177,
  a46 := Tryz.isAgg177,
  z46 := Tryz.sizeOf177,
  v46 := Tryz.zeroValue177,
  t51 := Tryz.underlying262,
  a51 := Tryz.isAgg262,
  z51 := Tryz.sizeOf262,
  v51 := Tryz.zeroValue262,
  t146 := Tryz.underlying263,
  a146 := Tryz.isAgg263,
  z146 := Tryz.sizeOf263,
  v146 := Tryz.zeroValue263,
  g1 := by kernel_rfl }
def Tryz.lays144_ren : Go.Shelf.Ren := ⟨fun | 144 => 167 | 143 => 198 | 219 => 215 | 217 => 165 | 225 => 223 | 224 => 224 | 267 => 225 | 266 => 190 | 314 => 233 | n => n, fun | 9 => 9 | 4 => 4 | 3 => 3 | 5 => 5 | 46 => 177 | 146 => 263 | 51 => 262 | n => n, fun | 1 => 2 | n => n⟩
theorem Tryz.lays144 : Go.Proofs.Lays.n144 Tryz.prog Tryz.lays144_ren := {
  mixed := by kernel_rfl,
  f143 := Tryz.func198.trans (congrArg some (by kernel_rfl)),
  f144 := Tryz.func167.trans (congrArg some (by kernel_rfl)),
  f217 := Tryz.func165.trans (congrArg some (by kernel_rfl)),
  f219 := Tryz.func215.trans (congrArg some (by kernel_rfl)),
  f224 := Tryz.func224.trans (congrArg some (by kernel_rfl)),
  f225 := Tryz.func223.trans (congrArg some (by kernel_rfl)),
  f266 := Tryz.func190.trans (congrArg some (by kernel_rfl)),
  f267 := Tryz.func225.trans (congrArg some (by kernel_rfl)),
  f314 := Tryz.func233.trans (congrArg some (by kernel_rfl)),
  t3 := Tryz.underlying3,
  a3 := Tryz.isAgg3,
  z3 := Tryz.sizeOf3,
  v3 := Tryz.zeroValue3,
  t4 := Tryz.underlying4,
  a4 := Tryz.isAgg4,
  z4 := Tryz.sizeOf4,
  v4 := Tryz.zeroValue4,
  t5 := Tryz.underlying5,
  a5 := Tryz.isAgg5,
  z5 := Tryz.sizeOf5,
  v5 := Tryz.zeroValue5,
  t9 := Tryz.underlying9,
  a9 := Tryz.isAgg9,
  z9 := Tryz.sizeOf9,
  v9 := Tryz.zeroValue9,
  t46 := Tryz.underlying177,
  a46 := Tryz.isAgg177,
  z46 := Tryz.sizeOf177,
  v46 := Tryz.zeroValue177,
  t51 := Tryz.underlying262,
  a51 := Tryz.isAgg262,
  z51 := Tryz.sizeOf262,
  v51 := Tryz.zeroValue262,
  t146 := Tryz.underlying263,
  a146 := Tryz.isAgg263,
  z146 := Tryz.sizeOf263,
  v146 := Tryz.zeroValue263,
  g1 := by kernel_rfl }
def Tryz.lays160_ren : Go.Shelf.Ren := ⟨fun | 160 => 166 | 232 => 192 | 231 => 191 | 227 => 193 | 234 => 195 | 233 => 194 | 236 => 197 | 235 => 196 | 228 => 211 | 271 => 214 | 151 => 213 | 197 => 212 | 120 => 222 | 152 => 221 | 260 => 220 | 137 => 125 | 119 => 232 | 224 => 224 | 225 => 223 | 217 => 165 | 266 => 190 | n => n, fun | 9 => 9 | 4 => 4 | 3 => 3 | 5 => 5 | 117 => 236 | 116 => 235 | 0 => 0 | 124 => 239 | 21 => 21 | 105 => 254 | 46 => 177 | 119 => 229 | 139 => 232 | 138 => 231 | n => n, fun | 3 => 0 | 4 => 1 | n => n⟩
theorem Tryz.lays160 : Go.Proofs.Lays.n160 Tryz.prog Tryz.lays160_ren := {
  mixed := by kernel_rfl,
  f119 := Tryz.func232.trans (congrArg some (by kernel_rfl)),
  f120 := Tryz.func222.trans (congrArg some (by kernel_rfl)),
  f137 := Tryz.func125.trans (congrArg some (by kernel_rfl)),
  f151 := Tryz.func213.trans (congrArg some (by kernel_rfl)),
  f152 := Tryz.func221.trans (congrArg some (by kernel_rfl)),
  f160 := Tryz.func166.trans (congrArg some (by kernel_rfl)),
  f197 := Tryz.func212.trans (congrArg some (by kernel_rfl)),
  f217 := Tryz.func165.trans (congrArg some (by kernel_rfl)),
  f224 := Tryz.func224.trans (congrArg some (by kernel_rfl)),
  f225 := Tryz.func223.trans (congrArg some (by kernel_rfl)),
  f227 := Tryz.func193.trans (congrArg some (by kernel_rfl)),
  f228 := Tryz.func211.trans (congrArg some (by kernel_rfl)),
  f231 := Tryz.func191.trans (congrArg some (by kernel_rfl)),
  f232 := Tryz.func192.trans (congrArg some (by kernel_rfl)),
  f233 := Tryz.func194.trans (congrArg some (by kernel_rfl)),
  f234 := Tryz.func195.trans (congrArg some (by kernel_rfl)),
  f235 := Tryz.func196.trans (congrArg some (by kernel_rfl)),
  f236 := Tryz.func197.trans (congrArg some (by kernel_rfl)),
  f260 := Tryz.func220.trans (congrArg some (by kernel_rfl)),
  f266 := Tryz.func190.trans (congrArg some (by kernel_rfl)),
  f271 := Tryz.func214.trans (congrArg some (by kernel_rfl)),
  t0 := Tryz.underlying0,
  a0 := Tryz.isAgg0,
  z0 := Tryz.sizeOf0,
  v0 := Tryz.zeroValue0,
  t3 := Tryz.underlying3,
  a3 := Tryz.isAgg3,
  z3 := Tryz.sizeOf3,
  v3 := Tryz.zeroValue3,
  t4 := Tryz.underlying4,
  a4 := Tryz.isAgg4,
  z4 := Tryz.sizeOf4,
  v4 := Tryz.zeroValue4,
  t5 := Tryz.underlying5,
  a5 := Tryz.isAgg5,
  z5 := Tryz.sizeOf5,
  v5 := Tryz.zeroValue5,
  t9 := Tryz.underlying9,
  a9 := Tryz.isAgg9,
  z9 := Tryz.sizeOf9,
  v9 := Tryz.zeroValue9,
  t21 := Tryz.underlying21,
  a21 := Tryz.isAgg21,
  z21 := Tryz.sizeOf21,
  v21 := Tryz.zeroValue21,
  t46 := Tryz.underlying177,
  a46 := Tryz.isAgg177,
  z46 := Tryz.sizeOf177,
  v46 := Tryz.zeroValue177,
  t105 := Tryz.underlying254,
  a105 := Tryz.isAgg254,
  z105 := Tryz.sizeOf254,
  v105 := Tryz.zeroValue254,
  t116 := Tryz.underlying235,
  a116 := Tryz.isAgg235,
  z116 := Tryz.sizeOf235,
  t117 := Tryz.underlying236,
  a117 := Tryz.isAgg236,
  z117 := Tryz.sizeOf236,
  v117 := Tryz.zeroValue236,
  t119 := Tryz.underlying229,
  a119 := Tryz.isAgg229,
  z119 := Tryz.sizeOf229,
  t124 := Tryz.underlying239,
  a124 := Tryz.isAgg239,
  z124 := Tryz.sizeOf239,
  v124 := Tryz.zeroValue239,
  t138 := Tryz.underlying231,
  a138 := Tryz.isAgg231,
  z138 := Tryz.sizeOf231,
  v138 := Tryz.zeroValue231,
  t139 := Tryz.underlying232,
  a139 := Tryz.isAgg232,
  z139 := Tryz.sizeOf232,
  v139 := Tryz.zeroValue232,
  g3 := by kernel_rfl,
  g4 := by kernel_rfl }
def Tryz.lays217_ren : Go.Shelf.Ren := ⟨fun | 217 => 165 | 266 => 190 | n => n, fun | 9 => 9 | 5 => 5 | 3 => 3 | n => n, fun | n => n⟩
theorem Tryz.lays217 : Go.Proofs.Lays.n217 Tryz.prog Tryz.lays217_ren := {
  mixed := by kernel_rfl,
  f217 := Tryz.func165.trans (congrArg some (by kernel_rfl)),
  f266 := Tryz.func190.trans (congrArg some (by kernel_rfl)),
  t3 := Tryz.underlying3,
  a3 := Tryz.isAgg3,
  z3 := Tryz.sizeOf3,
  v3 := Tryz.zeroValue3,
  t5 := Tryz.underlying5,
  a5 := Tryz.isAgg5,
  z5 := Tryz.sizeOf5,
  v5 := Tryz.zeroValue5,
  t9 := Tryz.underlying9,
  a9 := Tryz.isAgg9,
  z9 := Tryz.sizeOf9,
  v9 := Tryz.zeroValue9 }
end Go.Proofs
namespace Go.Proofs.QV
open Go
set_option linter.unusedVariables false
set_option maxRecDepth 100000
def gOk (w : World) : Prop := (Lib.Utf8Tabs 0 1 w) ∧ (∃ m, w.cell? ⟨2, 0, none⟩ = some (.int .i64 m))
theorem gOk_dep (w w' : World) (h : ∀ b, (b = 0 ∨ b = 1 ∨ b = 2) → w'.heap[b]? = w.heap[b]?) (k : gOk w) : gOk w' := by
  have h0 : ∀ o, w'.cell? ⟨0, o, none⟩ = w.cell? ⟨0, o, none⟩ := fun o => World.cell?_of_block (h 0 (by simp))
  have h1 : ∀ o, w'.cell? ⟨1, o, none⟩ = w.cell? ⟨1, o, none⟩ := fun o => World.cell?_of_block (h 1 (by simp))
  have h2 : ∀ o, w'.cell? ⟨2, o, none⟩ = w.cell? ⟨2, o, none⟩ := fun o => World.cell?_of_block (h 2 (by simp))
  obtain ⟨⟨k1, k2⟩, m, k3⟩ := k
  exact ⟨⟨fun c hc => (h0 _).trans (k1 c hc), fun i hi => ⟨(h1 _).trans (k2 i hi).1, (h1 _).trans (k2 i hi).2⟩⟩, m, (h2 _).trans k3⟩
def G : Glob := ⟨fun b => b = 0 ∨ b = 1 ∨ b = 2, gOk, gOk_dep⟩
def qIndexAny (v : List DC) : Option (List DC) := match v with
  | [.s s, .s c] => if s.length < 4294967281 ∧ c = [101, 69] then some [.i (Lib.indexAny s [101, 69])] else none
  | _ => none
theorem call_IndexAny (v r : List DC) (w : World) (hq : qIndexAny v = some r) (hG : G.ok w) : Calls Tryz.prog 236 (lits [.s, .s] v 0).toArray w fun e w' => e = .returned (resVal (lits [.i .i64] r 0)) ∧ RowKit.Below w.heap.size w w' := by
  unfold qIndexAny at hq
  split at hq
  · rename_i s c
    split at hq
    · rename_i hs
      obtain ⟨hs, rfl⟩ := hs
      injection hq with hq
      subst hq
      have h116 : (Tryz.prog.info? (Tryz.lays153_ren.t 116)).map (fun i => (i.zero, i.size)) = some (some (.agg (Array.replicate 256 (.bool false))), 256) := by kernel_rfl
      refine Calls.mono (IndexAny_ee Tryz.lays153 (zero_of_info h116).1 (zero_of_info h116).2 ⟨s.toArray⟩ w (by rw [Lib.size_eq]; simpa using hs)) fun e w' h => ?_
      obtain ⟨rfl, h⟩ := h
      exact ⟨rfl, h⟩
    · cases hq
  · cases hq
def qValidString (v : List DC) : Option (List DC) := match v with
  | [.s s] => if s.length ≤ 9223372036854775807 then some [.b (Lib.validD s)] else none
  | _ => none
theorem call_ValidString (v r : List DC) (w : World) (hq : qValidString v = some r) (hG : G.ok w) : Calls Tryz.prog 164 (lits [.s] v 0).toArray w fun e w' => e = .returned (resVal (lits [.b] r 0)) ∧ RowKit.Below w.heap.size w w' := by
  unfold qValidString at hq
  split at hq
  · rename_i s
    split at hq
    · rename_i hs
      injection hq with hq
      subst hq
      refine Calls.mono (Any.utf8_ValidString Tryz.lays196 ⟨s.toArray⟩ w (by rw [Lib.size_eq]; simpa using hs) hG.1) fun e w' h => ?_
      obtain ⟨rfl, h⟩ := h
      exact ⟨rfl, h⟩
    · cases hq
  · cases hq
def qCut (v : List DC) : Option (List DC) := match v with
  | [.s s, .s c] => if s.length < 4294967281 then some [.s (Lib.cut s c).1, .s (Lib.cut s c).2.1, .b (Lib.cut s c).2.2] else none
  | _ => none
theorem call_Cut (v r : List DC) (w : World) (hq : qCut v = some r) (hG : G.ok w) : Calls Tryz.prog 240 (lits [.s, .s] v 0).toArray w fun e w' => e = .returned (resVal (lits [.s, .s, .b] r 0)) ∧ RowKit.Below w.heap.size w w' := by
  unfold qCut at hq
  split at hq
  · rename_i s c
    split at hq
    · rename_i hs
      injection hq with hq
      subst hq
      obtain ⟨m, hm⟩ := hG.2
      refine Calls.mono (Any.stringslite_Cut Tryz.lays220 ⟨s.toArray⟩ ⟨c.toArray⟩ m w (by rw [Lib.size_eq]; simpa using hs) hm) fun e w' h => ?_
      obtain ⟨rfl, k, rfl⟩ := h
      exact ⟨rfl, below_drewN _ _⟩
    · cases hq
  · cases hq
def qContains (v : List DC) : Option (List DC) := match v with
  | [.s s, .s c] => if s.length < 4294967281 then some [.b (Lib.contains s c)] else none
  | _ => none
theorem call_Contains (v r : List DC) (w : World) (hq : qContains v = some r) (hG : G.ok w) : Calls Tryz.prog 167 (lits [.s, .s] v 0).toArray w fun e w' => e = .returned (resVal (lits [.b] r 0)) ∧ RowKit.Below w.heap.size w w' := by
  unfold qContains at hq
  split at hq
  · rename_i s c
    split at hq
    · rename_i hs
      injection hq with hq
      subst hq
      obtain ⟨m, hm⟩ := hG.2
      refine Calls.mono (Any.strings_Contains Tryz.lays144 ⟨s.toArray⟩ ⟨c.toArray⟩ m w (by rw [Lib.size_eq]; simpa using hs) hm) fun e w' h => ?_
      obtain ⟨rfl, rfl⟩ := h
      exact ⟨rfl, RowKit.Below.refl _ _⟩
    · cases hq
  · cases hq
def qTrim (v : List DC) : Option (List DC) := match v with
  | [.s s, .s c] => if s.length ≤ 9223372036854775807 ∧ c.length < 4294967281 ∧ c.all (fun b => decide (b.toNat < 128)) = true then some [.s (Lib.trimS s c)] else none
  | _ => none
theorem call_Trim (v r : List DC) (w : World) (hq : qTrim v = some r) (hG : G.ok w) : Calls Tryz.prog 166 (lits [.s, .s] v 0).toArray w fun e w' => e = .returned (resVal (lits [.s] r 0)) ∧ RowKit.Below w.heap.size w w' := by
  unfold qTrim at hq
  split at hq
  · rename_i s c
    split at hq
    · rename_i hs
      obtain ⟨hs, hc, ha⟩ := hs
      injection hq with hq
      subst hq
      have h116 : (Tryz.prog.info? (Tryz.lays160_ren.t 116)).map (fun i => (i.zero, i.size)) = some (some (.agg (Array.replicate 256 (.bool false))), 256) := by kernel_rfl
      refine Calls.mono (Any.strings_Trim_ascii Tryz.lays160 (zero_of_info h116).1 (zero_of_info h116).2 ⟨s.toArray⟩ ⟨c.toArray⟩ w (by rw [Lib.size_eq]; simpa using hs) (by rw [Lib.size_eq]; simpa using hc) fun j b hj => of_decide_eq_true (List.all_eq_true.1 ha b (List.mem_of_getElem? hj))) fun e w' h => ?_
      obtain ⟨rfl, h⟩ := h
      exact ⟨rfl, h⟩
    · cases hq
  · cases hq
def qIndexByte (v : List DC) : Option (List DC) := match v with
  | [.s s, .i c] => some [.i (Lib.indexByte s c.toNat.toUInt8)]
  | _ => none
theorem call_IndexByte (v r : List DC) (w : World) (hq : qIndexByte v = some r) (hG : G.ok w) : Calls Tryz.prog 165 (lits [.s, .i .u8] v 0).toArray w fun e w' => e = .returned (resVal (lits [.i .i64] r 0)) ∧ RowKit.Below w.heap.size w w' := by
  unfold qIndexByte at hq
  split at hq
  · rename_i s c
    injection hq with hq
    subst hq
    refine Calls.mono (Any.stringslite_IndexByte Tryz.lays217 ⟨s.toArray⟩ c w) fun e w' h => ?_
    obtain ⟨rfl, rfl⟩ := h
    exact ⟨rfl, RowKit.Below.refl _ _⟩
  · cases hq
abbrev ou : KC := .one .u
abbrev ob : KC := .one .b
abbrev os : KC := .one .s
abbrev oi : KC := .one (.i .i64)
abbrev ol (e : Nat) : KC := .one (.sl e)
def uu (n : Nat) (l : List KC) : List KC := List.replicate n (.one .u) ++ l
def vv (n : Nat) (l : List KO) : List KO := List.replicate n .u ++ l
noncomputable def tyL : List (Nat × TI) := [(3, ⟨.int .i64, [.i .i64], 8, [], false⟩),
  (4, ⟨.bool, [.b], 1, [], false⟩),
  (5, ⟨.int .u8, [.i .u8], 1, [], false⟩),
  (9, ⟨.str, [.s], 16, [], false⟩),
  (22, ⟨.slice 9, [.sl 9], 24, [], false⟩),
  (23, ⟨.slice 104, [.sl 104], 24, [], false⟩),
  (24, ⟨.slice 110, [.sl 110], 24, [], false⟩),
  (25, ⟨.slice 113, [.sl 113], 24, [], false⟩),
  (26, ⟨.slice 115, [.sl 115], 24, [], false⟩),
  (27, ⟨.slice 119, [.sl 119], 24, [], false⟩),
  (29, ⟨.struct, [.i .i64, .b, .s, .s, .sl 9, .sl 104, .sl 110, .sl 113, .sl 115, .b, .sl 119], 200, [(0, 1, false), (1, 1, false), (2, 1, false), (3, 1, false), (4, 1, false), (5, 1, false), (6, 1, false), (7, 1, false), (8, 1, false), (9, 1, false), (10, 1, false)], false⟩),
  (32, ⟨.slice 67, [.sl 67], 24, [], false⟩),
  (33, ⟨.slice 127, [.sl 127], 24, [], false⟩),
  (34, ⟨.slice 69, [.sl 69], 24, [], false⟩),
  (35, ⟨.slice 72, [.sl 72], 24, [], false⟩),
  (36, ⟨.slice 130, [.sl 130], 24, [], false⟩),
  (38, ⟨.struct, [.i .i64, .b, .s, .s, .sl 9, .sl 67, .sl 127, .sl 69, .sl 72, .b, .sl 130], 200, [(0, 1, false), (1, 1, false), (2, 1, false), (3, 1, false), (4, 1, false), (5, 1, false), (6, 1, false), (7, 1, false), (8, 1, false), (9, 1, false), (10, 1, false)], false⟩),
  (42, ⟨.slice 159, [.sl 159], 24, [], false⟩),
  (44, ⟨.struct, [.sl 159], 24, [(0, 1, false)], false⟩),
  (47, ⟨.slice 94, [.sl 94], 24, [], false⟩),
  (49, ⟨.struct, [.sl 94], 24, [(0, 1, false)], false⟩),
  (65, ⟨.struct, [.s, .s], 32, [(0, 1, false), (1, 1, false)], false⟩),
  (67, ⟨.struct, [.s, .s, .sl 127, .s, .s, .sl 130], 112, [(0, 1, false), (1, 1, false), (2, 1, false), (3, 2, true), (5, 1, false)], false⟩),
  (69, ⟨.struct, [.s, .s, .sl 130], 56, [(0, 1, false), (1, 1, false), (2, 1, false)], false⟩),
  (72, ⟨.struct, [.i .i64, .s], 24, [(0, 1, false), (1, 1, false)], false⟩),
  (87, ⟨.slice 162, [.sl 162], 24, [], false⟩),
  (88, ⟨.slice 193, [.sl 193], 24, [], false⟩),
  (90, ⟨.struct, [.i .i64, .s, .sl 162, .sl 130, .sl 193], 96, [(0, 1, false), (1, 1, false), (2, 1, false), (3, 1, false), (4, 1, false)], false⟩),
  (92, ⟨.struct, [.s, .s, .sl 130, .sl 193], 80, [(0, 1, false), (1, 1, false), (2, 1, false), (3, 1, false)], false⟩),
  (94, ⟨.struct, [.i .i64, .i .i64, .s, .sl 162, .sl 130, .sl 193, .s, .s, .sl 130, .sl 193, .i .i64, .b, .s, .s, .sl 9, .sl 67, .sl 127, .sl 69, .sl 72, .b, .sl 130], 384, [(0, 1, false), (1, 5, true), (6, 4, true), (10, 11, true)], false⟩),
  (102, ⟨.struct, [.s, .s], 32, [(0, 1, false), (1, 1, false)], false⟩),
  (104, ⟨.struct, [.s, .s, .sl 110, .s, .s, .sl 119], 112, [(0, 1, false), (1, 1, false), (2, 1, false), (3, 2, true), (5, 1, false)], false⟩),
  (106, ⟨.slice 108, [.sl 108], 24, [], false⟩),
  (108, ⟨.struct, [.i .i64, .s, .sl 108, .sl 9], 72, [(0, 1, false), (1, 1, false), (2, 1, false), (3, 1, false)], false⟩),
  (110, ⟨.struct, [.s, .s, .s, .s, .b, .i .i64, .s, .sl 108, .sl 9, .sl 119], 168, [(0, 1, false), (1, 1, false), (2, 2, true), (4, 1, false), (5, 4, true), (9, 1, false)], false⟩),
  (113, ⟨.struct, [.s, .s, .sl 119], 56, [(0, 1, false), (1, 1, false), (2, 1, false)], false⟩),
  (115, ⟨.struct, [.i .i64, .s], 24, [(0, 1, false), (1, 1, false)], false⟩),
  (117, ⟨.slice 203, [.sl 203], 24, [], false⟩),
  (119, ⟨.struct, [.s, .sl 203], 40, [(0, 1, false), (1, 1, false)], false⟩),
  (123, ⟨.slice 125, [.sl 125], 24, [], false⟩),
  (125, ⟨.struct, [.i .i64, .s, .sl 125, .sl 9], 72, [(0, 1, false), (1, 1, false), (2, 1, false), (3, 1, false)], false⟩),
  (127, ⟨.struct, [.s, .s, .s, .s, .b, .i .i64, .s, .sl 125, .sl 9, .sl 130], 168, [(0, 1, false), (1, 1, false), (2, 2, true), (4, 1, false), (5, 4, true), (9, 1, false)], false⟩),
  (128, ⟨.slice 133, [.sl 133], 24, [], false⟩),
  (130, ⟨.struct, [.s, .sl 133], 40, [(0, 1, false), (1, 1, false)], false⟩),
  (133, ⟨.struct, [.s, .i .i64, .s, .sl 125, .sl 9], 88, [(0, 1, false), (1, 4, true)], false⟩),
  (152, ⟨.slice 244, [.sl 244], 24, [], false⟩),
  (153, ⟨.slice 247, [.sl 247], 24, [], false⟩),
  (155, ⟨.struct, [.i .i64, .s, .sl 244, .sl 119, .sl 247], 96, [(0, 1, false), (1, 1, false), (2, 1, false), (3, 1, false), (4, 1, false)], false⟩),
  (157, ⟨.struct, [.s, .s, .sl 119, .sl 247], 80, [(0, 1, false), (1, 1, false), (2, 1, false), (3, 1, false)], false⟩),
  (159, ⟨.struct, [.i .i64, .i .i64, .s, .sl 244, .sl 119, .sl 247, .s, .s, .sl 119, .sl 247, .i .i64, .b, .s, .s, .sl 9, .sl 104, .sl 110, .sl 113, .sl 115, .b, .sl 119], 384, [(0, 1, false), (1, 5, true), (6, 4, true), (10, 11, true)], false⟩),
  (162, ⟨.struct, [.s, .s, .s, .b, .i .i64, .s, .sl 125, .sl 9, .sl 130], 152, [(0, 1, false), (1, 2, true), (3, 1, false), (4, 4, true), (8, 1, false)], false⟩),
  (175, ⟨.slice 5, [.sl 5], 24, [], false⟩),
  (193, ⟨.struct, [.i .i64, .s, .s, .s, .sl 133, .sl 130, .sl 193], 128, [(0, 1, false), (1, 1, false), (2, 1, false), (3, 1, false), (4, 1, false), (5, 1, false), (6, 1, false)], false⟩),
  (203, ⟨.struct, [.s, .i .i64, .s, .sl 108, .sl 9], 88, [(0, 1, false), (1, 4, true)], false⟩),
  (224, ⟨.struct, [.i .i64], 8, [(0, 1, false)], false⟩),
  (244, ⟨.struct, [.s, .s, .s, .b, .i .i64, .s, .sl 108, .sl 9, .sl 119], 152, [(0, 1, false), (1, 2, true), (3, 1, false), (4, 4, true), (8, 1, false)], false⟩),
  (247, ⟨.struct, [.i .i64, .s, .s, .s, .sl 203, .sl 119, .sl 247], 128, [(0, 1, false), (1, 1, false), (2, 1, false), (3, 1, false), (4, 1, false), (5, 1, false), (6, 1, false)], false⟩)]
noncomputable def h_unicode_utf8_ValidString : Hint := ⟨os :: [], []⟩
noncomputable def h_internal_stringslite_IndexByte : Hint := ⟨os :: .one (.i .u8) :: [], []⟩
noncomputable def h_strings_Trim : Hint := ⟨os :: os :: [], []⟩
noncomputable def h_strings_Contains : Hint := ⟨os :: os :: [], []⟩
noncomputable def h_strings_IndexAny : Hint := ⟨os :: os :: [], []⟩
noncomputable def h_internal_stringslite_Cut : Hint := ⟨os :: os :: [], []⟩
noncomputable def fi3 : FI := mkFI Tryz.f3 2 [.ag [.i .i64, .b, .s, .s, .sl 9, .sl 104, .sl 110, .sl 113, .sl 115, .b, .sl 119]] [(false, [.ct .b])] (fun _ => (.s (.r [0, 0] none) (.s .n (.s .n (.s .n (.s .n (.s (.r [0, 0, 1, 0] none) .n)))))))
noncomputable def fi4 : FI := mkFI Tryz.f4 2 [.ag [.sl 159]] [(false, [.ct .b])] (fun _ => (.s (.r [0, 0] none) (.s .n (.s .n (.s .n (.s .n (.s (.r [0, 0, 1, 0] none) .n)))))))
noncomputable def fi5 : FI := mkFI Tryz.f5 1 [.ag [.i .i64, .b, .s, .s, .sl 9, .sl 104, .sl 110, .sl 113, .sl 115, .b, .sl 119], .ct (.i .i64)] [(false, [.ct (.i .i64)])] (fun _ => (.s (.r [0, 0] none) .n))
noncomputable def fi7 : FI := mkFI Tryz.f7 3 [.ag [.i .i64, .b, .s, .s, .sl 9, .sl 104, .sl 110, .sl 113, .sl 115, .b, .sl 119]] [(true, [.ct (.i .i64), .ct .b, .ct .s, .ct .s, .ct (.sl 9), .ct (.sl 67), .ct (.sl 127), .ct (.sl 69), .ct (.sl 72), .ct .b, .ct (.sl 130)])] (fun _ => (.s (.r [0, 1] none) (.s (.r [2] none) .n)))
noncomputable def fi6 : FI := mkFI Tryz.f6 2 [.ag [.i .i64, .b, .s, .s, .sl 9, .sl 67, .sl 127, .sl 69, .sl 72, .b, .sl 130]] [(false, [.ct .b])] (fun _ => (.s (.r [0, 0] none) (.s (.s (.r [] (some ⟨ou :: .one (.ptr 0 0) :: uu 57 (ob :: uu 86 []), .var 38 [.i .i64, .b, .s, .s, .sl 9, .sl 67, .sl 127, .sl 69, .sl 72, .b, .sl 130] :: .u :: []⟩)) .n) (.s (.s .n (.b (.b (.s .n (.s (.b .n ⟨ou :: .one (.ptr 0 0) :: ou :: oi :: uu 142 [], .var 38 [.i .i64, .b, .s, .s, .sl 9, .sl 67, .sl 127, .sl 69, .sl 72, .b, .sl 130] :: .u :: []⟩) .n)) ⟨ou :: .one (.ptr 0 0) :: ou :: oi :: uu 142 [], .var 38 [.i .i64, .b, .s, .s, .sl 9, .sl 67, .sl 127, .sl 69, .sl 72, .b, .sl 130] :: .u :: []⟩) ⟨ou :: .one (.ptr 0 0) :: uu 144 [], .var 38 [.i .i64, .b, .s, .s, .sl 9, .sl 67, .sl 127, .sl 69, .sl 72, .b, .sl 130] :: .u :: []⟩)) (.s (.s .n (.b (.b (.s .n (.s (.b .n ⟨ou :: .one (.ptr 0 0) :: ou :: ou :: oi :: uu 141 [], .var 38 [.i .i64, .b, .s, .s, .sl 9, .sl 67, .sl 127, .sl 69, .sl 72, .b, .sl 130] :: .u :: []⟩) .n)) ⟨ou :: .one (.ptr 0 0) :: ou :: ou :: oi :: uu 141 [], .var 38 [.i .i64, .b, .s, .s, .sl 9, .sl 67, .sl 127, .sl 69, .sl 72, .b, .sl 130] :: .u :: []⟩) ⟨ou :: .one (.ptr 0 0) :: uu 144 [], .var 38 [.i .i64, .b, .s, .s, .sl 9, .sl 67, .sl 127, .sl 69, .sl 72, .b, .sl 130] :: .u :: []⟩)) (.s (.s .n (.b (.b (.s .n (.s (.b (.s (.r [0, 0, 0, 0, 0, 1, 0] none) (.s (.r [] (some ⟨ou :: .one (.ptr 0 0) :: uu 3 (oi :: uu 114 (ob :: uu 25 [])), .var 38 [.i .i64, .b, .s, .s, .sl 9, .sl 67, .sl 127, .sl 69, .sl 72, .b, .sl 130] :: .u :: []⟩)) .n)) ⟨ou :: .one (.ptr 0 0) :: uu 3 (oi :: uu 140 []), .var 38 [.i .i64, .b, .s, .s, .sl 9, .sl 67, .sl 127, .sl 69, .sl 72, .b, .sl 130] :: .u :: []⟩) .n)) ⟨ou :: .one (.ptr 0 0) :: uu 3 (oi :: uu 140 []), .var 38 [.i .i64, .b, .s, .s, .sl 9, .sl 67, .sl 127, .sl 69, .sl 72, .b, .sl 130] :: .u :: []⟩) ⟨ou :: .one (.ptr 0 0) :: uu 144 [], .var 38 [.i .i64, .b, .s, .s, .sl 9, .sl 67, .sl 127, .sl 69, .sl 72, .b, .sl 130] :: .u :: []⟩)) (.s (.s .n (.b (.b (.s .n (.s (.b (.s (.r [] (some ⟨ou :: .one (.ptr 0 0) :: uu 5 (oi :: uu 137 (ob :: [])), .var 38 [.i .i64, .b, .s, .s, .sl 9, .sl 67, .sl 127, .sl 69, .sl 72, .b, .sl 130] :: .u :: []⟩)) .n) ⟨ou :: .one (.ptr 0 0) :: uu 5 (oi :: uu 138 []), .var 38 [.i .i64, .b, .s, .s, .sl 9, .sl 67, .sl 127, .sl 69, .sl 72, .b, .sl 130] :: .u :: []⟩) .n)) ⟨ou :: .one (.ptr 0 0) :: uu 5 (oi :: uu 138 []), .var 38 [.i .i64, .b, .s, .s, .sl 9, .sl 67, .sl 127, .sl 69, .sl 72, .b, .sl 130] :: .u :: []⟩) ⟨uu 146 [], .u :: .u :: []⟩)) .n)))))))
noncomputable def fi8 : FI := mkFI Tryz.f8 1 [.ag [.i .i64, .b, .s, .s, .sl 9, .sl 67, .sl 127, .sl 69, .sl 72, .b, .sl 130]] [(false, [.ct .b])] (fun _ => (.s (.r [0, 0] none) (.s (.s (.r [] (some ⟨ou :: .one (.ptr 0 0) :: uu 34 (ob :: uu 42 []), .var 38 [.i .i64, .b, .s, .s, .sl 9, .sl 67, .sl 127, .sl 69, .sl 72, .b, .sl 130] :: []⟩)) .n) (.s (.s .n (.b (.s .n (.c (.s (.r [] (some ⟨ou :: ou :: ob :: uu 76 [], .u :: []⟩)) .n) (.s .n (.c (.s (.r [] (some ⟨ou :: ou :: ob :: uu 76 [], .u :: []⟩)) .n) .n none)) none)) ⟨ou :: .one (.ptr 0 0) :: uu 77 [], .var 38 [.i .i64, .b, .s, .s, .sl 9, .sl 67, .sl 127, .sl 69, .sl 72, .b, .sl 130] :: []⟩)) .n))))
noncomputable def fi9 : FI := mkFI Tryz.f9 2 [.ag [.i .i64, .b, .s, .s, .sl 9, .sl 67, .sl 127, .sl 69, .sl 72, .b, .sl 130], .ag [.i .i64, .b, .s, .s, .sl 9, .sl 67, .sl 127, .sl 69, .sl 72, .b, .sl 130]] [(false, [.ct .b])] (fun _ => (.s (.r [0, 1, 0] none) .n))
noncomputable def fi10 : FI := mkFI Tryz.f10 1 [.ag [.sl 159], .ct (.i .i64)] [(false, [.ct (.i .i64)])] (fun _ => (.s (.r [0, 0] none) .n))
noncomputable def fi12 : FI := mkFI Tryz.f12 3 [.ag [.sl 159]] [(true, [.ct (.sl 94)])] (fun _ => (.s (.r [0, 1] none) (.s (.r [2] none) .n)))
noncomputable def fi11 : FI := mkFI Tryz.f11 2 [.ag [.sl 94]] [(false, [.ct .b])] (fun _ => (.s (.r [0, 0] none) (.s (.s (.r [] (some ⟨ou :: .one (.ptr 0 0) :: uu 13 (ob :: uu 61 []), .var 49 [.sl 94] :: .u :: []⟩)) .n) (.s (.s .n (.b (.b (.s .n (.s (.b (.s (.r [0, 0, 0, 0, 0, 1, 0] none) (.s .n (.s (.s .n (.b (.s .n (.c (.r [] (some ⟨ou :: .one (.ptr 0 0) :: ou :: oi :: ou :: ob :: uu 71 [], .var 49 [.sl 94] :: .u :: []⟩)) (.s .n (.c (.r [] (some ⟨ou :: .one (.ptr 0 0) :: ou :: oi :: ou :: ob :: uu 71 [], .var 49 [.sl 94] :: .u :: []⟩)) (.s .n (.c (.r [] (some ⟨ou :: .one (.ptr 0 0) :: ou :: oi :: ou :: ob :: uu 71 [], .var 49 [.sl 94] :: .u :: []⟩)) .n (some ⟨ou :: .one (.ptr 0 0) :: ou :: oi :: ou :: ob :: uu 71 [], .var 49 [.sl 94] :: .u :: []⟩))) (some ⟨ou :: .one (.ptr 0 0) :: ou :: oi :: ou :: ob :: uu 71 [], .var 49 [.sl 94] :: .u :: []⟩))) (some ⟨ou :: .one (.ptr 0 0) :: ou :: oi :: ou :: ob :: uu 71 [], .var 49 [.sl 94] :: .u :: []⟩))) ⟨ou :: .one (.ptr 0 0) :: ou :: oi :: ou :: ob :: uu 71 [], .var 49 [.sl 94] :: .u :: []⟩)) .n))) ⟨ou :: .one (.ptr 0 0) :: ou :: oi :: uu 73 [], .var 49 [.sl 94] :: .u :: []⟩) .n)) ⟨ou :: .one (.ptr 0 0) :: ou :: oi :: uu 73 [], .var 49 [.sl 94] :: .u :: []⟩) ⟨uu 77 [], .u :: .u :: []⟩)) .n))))
noncomputable def fi13 : FI := mkFI Tryz.f13 1 [.ag [.sl 94]] [(false, [.ct .b])] (fun _ => (.s (.r [0, 0] none) (.s (.r [] (some ⟨ou :: ou :: ob :: uu 10 [], .u :: []⟩)) .n)))
noncomputable def fi14 : FI := mkFI Tryz.f14 2 [.ag [.sl 94], .ag [.sl 94]] [(false, [.ct .b])] (fun _ => (.s (.r [0, 1, 0] none) .n))
noncomputable def fi15 : FI := mkFI Tryz.f15 0 [.ct (.sl 9), .ct (.i .i64)] [(false, [.ct (.i .i64)])] (fun _ => (.s .n (.s .n (.s .n (.s (.s .n (.b (.b (.s .n (.s (.b .n ⟨ol 9 :: oi :: uu 3 (oi :: uu 22 []), []⟩) .n)) ⟨ol 9 :: oi :: uu 3 (oi :: uu 22 []), []⟩) ⟨ou :: oi :: uu 26 [], []⟩)) .n)))))
noncomputable def fi16 : FI := mkFI Tryz.f16 0 [.ct (.sl 104), .ct (.i .i64)] [(false, [.ct (.i .i64)])] (fun _ => (.s .n (.s .n (.s .n (.s (.s .n (.b (.b (.s .n (.s (.b .n ⟨ol 104 :: oi :: uu 3 (oi :: uu 21 []), []⟩) .n)) ⟨ol 104 :: oi :: uu 3 (oi :: uu 21 []), []⟩) ⟨ou :: oi :: uu 25 [], []⟩)) .n)))))
noncomputable def fi17 : FI := mkFI Tryz.f17 0 [.ct (.sl 110), .ct (.i .i64)] [(false, [.ct (.i .i64)])] (fun _ => (.s .n (.s .n (.s .n (.s (.s .n (.b (.b (.s .n (.s (.b .n ⟨ol 110 :: oi :: uu 3 (oi :: uu 21 []), []⟩) .n)) ⟨ol 110 :: oi :: uu 3 (oi :: uu 21 []), []⟩) ⟨ou :: oi :: uu 25 [], []⟩)) .n)))))
noncomputable def fi18 : FI := mkFI Tryz.f18 0 [.ct (.sl 113), .ct (.i .i64)] [(false, [.ct (.i .i64)])] (fun _ => (.s .n (.s .n (.s .n (.s (.s .n (.b (.b (.s .n (.s (.b .n ⟨ol 113 :: oi :: uu 3 (oi :: uu 21 []), []⟩) .n)) ⟨ol 113 :: oi :: uu 3 (oi :: uu 21 []), []⟩) ⟨ou :: oi :: uu 25 [], []⟩)) .n)))))
noncomputable def fi19 : FI := mkFI Tryz.f19 0 [.ct (.sl 115), .ct (.i .i64)] [(false, [.ct (.i .i64)])] (fun _ => (.s .n (.s .n (.s .n (.s (.s .n (.b (.b (.s .n (.s (.b .n ⟨ol 115 :: oi :: uu 3 (oi :: uu 21 []), []⟩) .n)) ⟨ol 115 :: oi :: uu 3 (oi :: uu 21 []), []⟩) ⟨ou :: oi :: uu 25 [], []⟩)) .n)))))
noncomputable def fi20 : FI := mkFI Tryz.f20 0 [.ct (.sl 119), .ct (.i .i64)] [(false, [.ct (.i .i64)])] (fun _ => (.s .n (.s .n (.s .n (.s (.s .n (.b (.b (.s .n (.s (.b .n ⟨ol 119 :: oi :: uu 3 (oi :: uu 21 []), []⟩) .n)) ⟨ol 119 :: oi :: uu 3 (oi :: uu 21 []), []⟩) ⟨ou :: oi :: uu 25 [], []⟩)) .n)))))
noncomputable def fi31 : FI := mkFI Tryz.f31 4 [.ct (.sl 9)] [(false, [.ct (.sl 9)])] (fun _ => (.s .n (.s (.r [0, 0, 0, 0] none) (.s (.s .n (.b (.b (.s .n (.s (.b .n ⟨ol 9 :: ou :: ou :: .one (.own 9 2) :: oi :: uu 17 [], vv 4 []⟩) .n)) ⟨ol 9 :: ou :: ou :: .one (.own 9 1) :: oi :: uu 17 [], vv 4 []⟩) ⟨uu 3 (.one (.own 9 3) :: uu 18 []), vv 4 []⟩)) .n))))
noncomputable def fi32 : FI := mkFI Tryz.f32 4 [.ct (.sl 104)] [(false, [.ct (.sl 67)])] (fun _ => (.s .n (.s (.r [0, 0, 0, 0] none) (.s (.s .n (.b (.b (.s .n (.s (.b .n ⟨ol 104 :: ou :: ou :: .one (.own 67 2) :: oi :: uu 18 [], vv 4 []⟩) .n)) ⟨ol 104 :: ou :: ou :: .one (.own 67 1) :: oi :: uu 18 [], vv 4 []⟩) ⟨uu 3 (.one (.own 67 3) :: uu 19 []), vv 4 []⟩)) .n))))
noncomputable def fi33 : FI := mkFI Tryz.f33 4 [.ct (.sl 110)] [(false, [.ct (.sl 127)])] (fun _ => (.s .n (.s (.r [0, 0, 0, 0] none) (.s (.s .n (.b (.b (.s .n (.s (.b .n ⟨ol 110 :: ou :: ou :: .one (.own 127 2) :: oi :: uu 18 [], vv 4 []⟩) .n)) ⟨ol 110 :: ou :: ou :: .one (.own 127 1) :: oi :: uu 18 [], vv 4 []⟩) ⟨uu 3 (.one (.own 127 3) :: uu 19 []), vv 4 []⟩)) .n))))
noncomputable def fi34 : FI := mkFI Tryz.f34 4 [.ct (.sl 113)] [(false, [.ct (.sl 69)])] (fun _ => (.s .n (.s (.r [0, 0, 0, 0] none) (.s (.s .n (.b (.b (.s .n (.s (.b .n ⟨ol 113 :: ou :: ou :: .one (.own 69 2) :: oi :: uu 18 [], vv 4 []⟩) .n)) ⟨ol 113 :: ou :: ou :: .one (.own 69 1) :: oi :: uu 18 [], vv 4 []⟩) ⟨uu 3 (.one (.own 69 3) :: uu 19 []), vv 4 []⟩)) .n))))
noncomputable def fi35 : FI := mkFI Tryz.f35 4 [.ct (.sl 115)] [(false, [.ct (.sl 72)])] (fun _ => (.s .n (.s (.r [0, 0, 0, 0] none) (.s (.s .n (.b (.b (.s .n (.s (.b .n ⟨ol 115 :: ou :: ou :: .one (.own 72 2) :: oi :: uu 18 [], vv 4 []⟩) .n)) ⟨ol 115 :: ou :: ou :: .one (.own 72 1) :: oi :: uu 18 [], vv 4 []⟩) ⟨uu 3 (.one (.own 72 3) :: uu 19 []), vv 4 []⟩)) .n))))
noncomputable def fi36 : FI := mkFI Tryz.f36 4 [.ct (.sl 119)] [(false, [.ct (.sl 130)])] (fun _ => (.s .n (.s (.r [0, 0, 0, 0] none) (.s (.s .n (.b (.b (.s .n (.s (.b .n ⟨ol 119 :: ou :: ou :: .one (.own 130 2) :: oi :: uu 18 [], vv 4 []⟩) .n)) ⟨ol 119 :: ou :: ou :: .one (.own 130 1) :: oi :: uu 18 [], vv 4 []⟩) ⟨uu 3 (.one (.own 130 3) :: uu 19 []), vv 4 []⟩)) .n))))
noncomputable def fi21 : FI := mkFI Tryz.f21 0 [.ct (.i .i64), .ct (.i .i64), .ct (.i .i64)] [(false, [.ct .b])] (fun _ => (.s .n (.s (.r [] (some ⟨uu 6 (ob :: uu 8 []), []⟩)) .n)))
noncomputable def fi22 : FI := mkFI Tryz.f22 0 [.ct .s] [(false, [.ct .b])] (fun _ => (.s .n (.s (.r [] (some ⟨ou :: ou :: ob :: uu 7 [], []⟩)) .n)))
noncomputable def fi23 : FI := mkFI Tryz.f23 1 [.ag [.i .i64, .b, .s, .s, .sl 9, .sl 67, .sl 127, .sl 69, .sl 72, .b, .sl 130]] [(false, [.ct .b])] (fun _ => (.s (.r [0, 0] none) .n))
noncomputable def fi24 : FI := mkFI Tryz.f24 1 [.ag [.i .i64, .b, .s, .s, .sl 9, .sl 67, .sl 127, .sl 69, .sl 72, .b, .sl 130]] [(false, [.ct .b])] (fun _ => (.s (.r [0, 0] none) (.s .n (.s (.r [] (some ⟨ou :: .one (.ptr 0 0) :: ou :: oi :: ob :: uu 125 [], .var 38 [.i .i64, .b, .s, .s, .sl 9, .sl 67, .sl 127, .sl 69, .sl 72, .b, .sl 130] :: []⟩)) (.s (.s (.k [] [(8, ⟨ou :: .one (.ptr 0 0) :: ou :: oi :: ob :: uu 16 (ob :: uu 108 []), .var 38 [.i .i64, .b, .s, .s, .sl 9, .sl 67, .sl 127, .sl 69, .sl 72, .b, .sl 130] :: []⟩), (18, ⟨ou :: .one (.ptr 0 0) :: ou :: oi :: uu 35 (ob :: uu 90 []), .var 38 [.i .i64, .b, .s, .s, .sl 9, .sl 67, .sl 127, .sl 69, .sl 72, .b, .sl 130] :: []⟩), (14, ⟨ou :: .one (.ptr 0 0) :: ou :: oi :: uu 49 (ob :: uu 76 []), .var 38 [.i .i64, .b, .s, .s, .sl 9, .sl 67, .sl 127, .sl 69, .sl 72, .b, .sl 130] :: []⟩), (10, ⟨ou :: .one (.ptr 0 0) :: ou :: oi :: uu 59 (ob :: uu 66 []), .var 38 [.i .i64, .b, .s, .s, .sl 9, .sl 67, .sl 127, .sl 69, .sl 72, .b, .sl 130] :: []⟩), (10, ⟨ou :: .one (.ptr 0 0) :: ou :: oi :: uu 69 (ob :: uu 56 []), .var 38 [.i .i64, .b, .s, .s, .sl 9, .sl 67, .sl 127, .sl 69, .sl 72, .b, .sl 130] :: []⟩), (8, ⟨ou :: .one (.ptr 0 0) :: ou :: oi :: uu 77 (ob :: uu 48 []), .var 38 [.i .i64, .b, .s, .s, .sl 9, .sl 67, .sl 127, .sl 69, .sl 72, .b, .sl 130] :: []⟩)]) .n) (.s (.s .n (.c (.s (.s .n (.b (.b (.s .n (.s (.b .n ⟨ou :: .one (.ptr 0 0) :: uu 3 (oi :: uu 124 []), .var 38 [.i .i64, .b, .s, .s, .sl 9, .sl 67, .sl 127, .sl 69, .sl 72, .b, .sl 130] :: []⟩) .n)) ⟨ou :: .one (.ptr 0 0) :: uu 3 (oi :: uu 124 []), .var 38 [.i .i64, .b, .s, .s, .sl 9, .sl 67, .sl 127, .sl 69, .sl 72, .b, .sl 130] :: []⟩) ⟨ou :: .one (.ptr 0 0) :: uu 128 [], .var 38 [.i .i64, .b, .s, .s, .sl 9, .sl 67, .sl 127, .sl 69, .sl 72, .b, .sl 130] :: []⟩)) (.s (.r [] (some ⟨ou :: ou :: ob :: uu 127 [], .u :: []⟩)) .n)) .n none)) (.s (.r [] (some ⟨ou :: ou :: ob :: uu 127 [], .u :: []⟩)) .n)))))))
noncomputable def fi25 : FI := mkFI Tryz.f25 0 [.ct .s] [(false, [.ct .b])] (fun _ => (.s .n (.s (.s (.r [] (some ⟨os :: uu 15 (ob :: uu 18 []), []⟩)) .n) (.s (.s .n (.b (.b (.s .n (.s (.b (.s (.r [] (some ⟨os :: ou :: ou :: oi :: uu 30 (ob :: []), []⟩)) .n) ⟨os :: ou :: ou :: oi :: uu 31 [], []⟩) .n)) ⟨os :: ou :: ou :: oi :: uu 31 [], []⟩) ⟨uu 35 [], []⟩)) .n))))
noncomputable def fi26 : FI := mkFI Tryz.f26 0 [.ct (.sl 127)] [(false, [.ct .b])] (fun _ => (.s .n (.s (.s .n (.b (.b (.s .n (.s (.b .n ⟨ol 127 :: ou :: ou :: oi :: uu 12 [], []⟩) .n)) ⟨ol 127 :: ou :: ou :: oi :: uu 12 [], []⟩) ⟨uu 16 [], []⟩)) .n)))
noncomputable def fi27 : FI := mkFI Tryz.f27 0 [.ct (.sl 130)] [(false, [.ct .b])] (fun _ => (.s .n (.s (.s .n (.b (.b (.s .n (.s (.b (.s .n (.b (.b (.s .n (.s (.b .n ⟨ol 130 :: ou :: ou :: oi :: oi :: uu 29 [], []⟩) .n)) ⟨ol 130 :: ou :: ou :: oi :: oi :: uu 29 [], []⟩) ⟨ol 130 :: ou :: ou :: oi :: uu 30 [], []⟩)) ⟨ol 130 :: ou :: ou :: oi :: uu 30 [], []⟩) .n)) ⟨ol 130 :: ou :: ou :: oi :: uu 30 [], []⟩) ⟨ol 130 :: uu 33 [], []⟩)) .n)))
noncomputable def fi28 : FI := mkFI Tryz.f28 1 [.ag [.s, .s, .sl 127, .s, .s, .sl 130]] [(false, [.ct .b])] (fun _ => (.s (.r [0, 0] none) (.s (.r [] (some ⟨ou :: ou :: ob :: uu 23 [], .u :: []⟩)) .n)))
noncomputable def fi29 : FI := mkFI Tryz.f29 0 [.ct .s] [(false, [.ct .b])] (fun _ => (.s .n (.s (.r [] (some ⟨ou :: ou :: ob :: uu 10 [], []⟩)) .n)))
noncomputable def fi30 : FI := mkFI Tryz.f30 0 [.ct (.i .i64)] [(false, [.ct .s])] (fun _ => (.s .n (.s (.s .n (.b .n ⟨uu 10 [], []⟩)) .n)))
noncomputable def fi37 : FI := mkFI Tryz.f37 0 [.ct (.i .i64), .ct (.i .i64), .ct (.i .i64)] [(false, [.ct .b])] (fun _ => (.s .n (.s (.r [] (some ⟨uu 6 (ob :: uu 8 []), []⟩)) .n)))
noncomputable def fi38 : FI := mkFI Tryz.f38 0 [.ct .s] [(false, [.ct .b])] (fun _ => (.s .n (.s (.r [] (some ⟨ou :: ou :: ob :: uu 7 [], []⟩)) .n)))
noncomputable def fi39 : FI := mkFI Tryz.f39 1 [.ag [.i .i64, .b, .s, .s, .sl 9, .sl 67, .sl 127, .sl 69, .sl 72, .b, .sl 130]] [(false, [.ct .b])] (fun _ => (.s (.r [0, 0] none) .n))
noncomputable def fi40 : FI := mkFI Tryz.f40 1 [.ag [.i .i64, .b, .s, .s, .sl 9, .sl 67, .sl 127, .sl 69, .sl 72, .b, .sl 130]] [(false, [.ct .b])] (fun _ => (.s (.r [0, 0] none) (.s (.r [] (some ⟨ou :: ou :: ob :: uu 32 [], .u :: []⟩)) .n)))
noncomputable def fi41 : FI := mkFI Tryz.f41 1 [.ag [.i .i64, .b, .s, .s, .sl 9, .sl 67, .sl 127, .sl 69, .sl 72, .b, .sl 130]] [(false, [.ct .b])] (fun _ => (.s (.r [0, 0] none) (.s .n (.s (.r [] (some ⟨ou :: .one (.ptr 0 0) :: ou :: oi :: ob :: uu 83 [], .var 38 [.i .i64, .b, .s, .s, .sl 9, .sl 67, .sl 127, .sl 69, .sl 72, .b, .sl 130] :: []⟩)) (.s (.s (.r [] (some ⟨ou :: .one (.ptr 0 0) :: ou :: oi :: uu 34 (ob :: uu 49 []), .var 38 [.i .i64, .b, .s, .s, .sl 9, .sl 67, .sl 127, .sl 69, .sl 72, .b, .sl 130] :: []⟩)) .n) (.s (.s (.r [] (some ⟨ou :: .one (.ptr 0 0) :: ou :: oi :: uu 56 (ob :: uu 27 []), .var 38 [.i .i64, .b, .s, .s, .sl 9, .sl 67, .sl 127, .sl 69, .sl 72, .b, .sl 130] :: []⟩)) .n) (.s (.r [] (some ⟨ou :: ou :: ob :: uu 85 [], .u :: []⟩)) .n)))))))
noncomputable def fi42 : FI := mkFI Tryz.f42 0 [.ct .s] [(false, [.ct .b])] (fun _ => (.s .n (.s (.s (.r [] (some ⟨os :: uu 11 (ob :: uu 11 []), []⟩)) .n) (.s (.s .n (.b (.b (.s .n (.s .n (.s (.b .n ⟨os :: uu 13 (oi :: oi :: uu 8 []), []⟩) .n))) ⟨os :: uu 13 (oi :: oi :: uu 8 []), []⟩) ⟨uu 24 [], []⟩)) .n))))
noncomputable def fi43 : FI := mkFI Tryz.f43 0 [.ct (.sl 9), .fn] [(false, [.ct .b])] (fun _ => .n)
noncomputable def fi46 : FI := mkFI Tryz.f46 0 [.ct (.sl 9), .ct (.sl 9)] [(false, [.ct .b])] (fun _ => (.s .n (.s .n (.s (.s .n (.b (.b (.s .n (.s (.b .n ⟨ol 9 :: ol 9 :: uu 3 (oi :: uu 20 []), []⟩) .n)) ⟨ol 9 :: ol 9 :: uu 3 (oi :: uu 20 []), []⟩) ⟨uu 26 [], []⟩)) .n))))
noncomputable def fi47 : FI := mkFI Tryz.f47 0 [.ct (.sl 67), .ct (.sl 67)] [(false, [.ct .b])] (fun _ => (.s .n (.s .n (.s (.s .n (.b (.b (.s .n (.s (.b .n ⟨ol 67 :: ol 67 :: uu 3 (oi :: uu 21 []), []⟩) .n)) ⟨ol 67 :: ol 67 :: uu 3 (oi :: uu 21 []), []⟩) ⟨uu 27 [], []⟩)) .n))))
noncomputable def fi48 : FI := mkFI Tryz.f48 0 [.ct (.sl 127), .ct (.sl 127)] [(false, [.ct .b])] (fun _ => (.s .n (.s .n (.s (.s .n (.b (.b (.s .n (.s (.b .n ⟨ol 127 :: ol 127 :: uu 3 (oi :: uu 21 []), []⟩) .n)) ⟨ol 127 :: ol 127 :: uu 3 (oi :: uu 21 []), []⟩) ⟨uu 27 [], []⟩)) .n))))
noncomputable def fi49 : FI := mkFI Tryz.f49 0 [.ct (.sl 69), .ct (.sl 69)] [(false, [.ct .b])] (fun _ => (.s .n (.s .n (.s (.s .n (.b (.b (.s .n (.s (.b .n ⟨ol 69 :: ol 69 :: uu 3 (oi :: uu 21 []), []⟩) .n)) ⟨ol 69 :: ol 69 :: uu 3 (oi :: uu 21 []), []⟩) ⟨uu 27 [], []⟩)) .n))))
noncomputable def fi50 : FI := mkFI Tryz.f50 0 [.ct (.sl 72), .ct (.sl 72)] [(false, [.ct .b])] (fun _ => (.s .n (.s .n (.s (.s .n (.b (.b (.s .n (.s (.b .n ⟨ol 72 :: ol 72 :: uu 3 (oi :: uu 21 []), []⟩) .n)) ⟨ol 72 :: ol 72 :: uu 3 (oi :: uu 21 []), []⟩) ⟨uu 27 [], []⟩)) .n))))
noncomputable def fi51 : FI := mkFI Tryz.f51 0 [.ct (.sl 130), .ct (.sl 130)] [(false, [.ct .b])] (fun _ => (.s .n (.s .n (.s (.s .n (.b (.b (.s .n (.s (.b .n ⟨ol 130 :: ol 130 :: uu 3 (oi :: uu 21 []), []⟩) .n)) ⟨ol 130 :: ol 130 :: uu 3 (oi :: uu 21 []), []⟩) ⟨uu 27 [], []⟩)) .n))))
noncomputable def fi52 : FI := mkFI Tryz.f52 0 [.ct (.sl 159), .ct (.i .i64)] [(false, [.ct (.i .i64)])] (fun _ => (.s .n (.s .n (.s .n (.s (.s .n (.b (.b (.s .n (.s (.b .n ⟨ol 159 :: oi :: uu 3 (oi :: uu 21 []), []⟩) .n)) ⟨ol 159 :: oi :: uu 3 (oi :: uu 21 []), []⟩) ⟨ou :: oi :: uu 25 [], []⟩)) .n)))))
noncomputable def fi58 : FI := mkFI Tryz.f58 4 [.ct (.sl 159)] [(false, [.ct (.sl 94)])] (fun _ => (.s .n (.s (.r [0, 0, 0, 0] none) (.s (.s .n (.b (.b (.s .n (.s (.b .n ⟨ol 159 :: ou :: ou :: .one (.own 94 2) :: oi :: uu 18 [], vv 4 []⟩) .n)) ⟨ol 159 :: ou :: ou :: .one (.own 94 1) :: oi :: uu 18 [], vv 4 []⟩) ⟨uu 3 (.one (.own 94 3) :: uu 19 []), vv 4 []⟩)) .n))))
noncomputable def fi53 : FI := mkFI Tryz.f53 1 [.ag [.i .i64, .s, .sl 162, .sl 130, .sl 193]] [(false, [.ct .b])] (fun _ => (.s (.r [0, 0] none) (.s (.s (.r [] (some ⟨ou :: .one (.ptr 0 0) :: uu 28 (ob :: uu 17 []), .var 90 [.i .i64, .s, .sl 162, .sl 130, .sl 193] :: []⟩)) .n) (.s (.s .n (.b (.b (.s .n (.s (.b .n ⟨ou :: .one (.ptr 0 0) :: ou :: oi :: uu 44 [], .var 90 [.i .i64, .s, .sl 162, .sl 130, .sl 193] :: []⟩) .n)) ⟨ou :: .one (.ptr 0 0) :: ou :: oi :: uu 44 [], .var 90 [.i .i64, .s, .sl 162, .sl 130, .sl 193] :: []⟩) ⟨ou :: .one (.ptr 0 0) :: uu 46 [], .var 90 [.i .i64, .s, .sl 162, .sl 130, .sl 193] :: []⟩)) .n))))
noncomputable def fi54 : FI := mkFI Tryz.f54 1 [.ag [.s, .s, .sl 130, .sl 193]] [(false, [.ct .b])] (fun _ => (.s (.r [0, 0] none) (.s (.r [] (some ⟨ou :: ou :: ob :: uu 18 [], .u :: []⟩)) .n)))
noncomputable def fi55 : FI := mkFI Tryz.f55 1 [.ag [.i .i64, .b, .s, .s, .sl 9, .sl 67, .sl 127, .sl 69, .sl 72, .b, .sl 130]] [(false, [.ct .b])] (fun _ => (.s (.r [0, 0] none) (.s (.r [] (some ⟨ou :: ou :: ob :: uu 28 [], .u :: []⟩)) .n)))
noncomputable def fi56 : FI := mkFI Tryz.f56 1 [.ag [.s, .s, .sl 130, .sl 193]] [(false, [.ct .b])] (fun _ => (.s (.r [0, 0] none) (.s (.r [] (some ⟨ou :: ou :: ob :: uu 29 [], .u :: []⟩)) .n)))
noncomputable def fi57 : FI := mkFI Tryz.f57 1 [.ag [.i .i64, .s, .sl 162, .sl 130, .sl 193]] [(false, [.ct .b])] (fun _ => (.s (.r [0, 0] none) (.s (.r [] (some ⟨ou :: ou :: ob :: uu 22 [], .u :: []⟩)) .n)))
noncomputable def fi59 : FI := mkFI Tryz.f59 0 [.ct (.sl 94), .fn] [(false, [.ct .b])] (fun _ => .n)
noncomputable def fi62 : FI := mkFI Tryz.f62 0 [.ct (.sl 94), .ct (.sl 94)] [(false, [.ct .b])] (fun _ => (.s .n (.s .n (.s (.s .n (.b (.b (.s .n (.s (.b .n ⟨ol 94 :: ol 94 :: uu 3 (oi :: uu 21 []), []⟩) .n)) ⟨ol 94 :: ol 94 :: uu 3 (oi :: uu 21 []), []⟩) ⟨uu 27 [], []⟩)) .n))))
noncomputable def fi63 : FI := mkFI Tryz.f63 1 [.ag [.s, .s, .sl 110, .s, .s, .sl 119], .ct (.i .i64)] [(false, [.ct (.i .i64)])] (fun _ => (.s (.r [0, 0] none) .n))
noncomputable def fi64 : FI := mkFI Tryz.f64 1 [.ag [.s, .s, .s, .s, .b, .i .i64, .s, .sl 108, .sl 9, .sl 119], .ct (.i .i64)] [(false, [.ct (.i .i64)])] (fun _ => (.s (.r [0, 0] none) .n))
noncomputable def fi65 : FI := mkFI Tryz.f65 1 [.ag [.s, .s, .sl 119], .ct (.i .i64)] [(false, [.ct (.i .i64)])] (fun _ => (.s (.r [0, 0] none) .n))
noncomputable def fi66 : FI := mkFI Tryz.f66 1 [.ag [.i .i64, .s], .ct (.i .i64)] [(false, [.ct (.i .i64)])] (fun _ => (.s (.r [0, 0] none) .n))
noncomputable def fi67 : FI := mkFI Tryz.f67 1 [.ag [.s, .sl 203], .ct (.i .i64)] [(false, [.ct (.i .i64)])] (fun _ => (.s (.r [0, 0] none) .n))
noncomputable def fi76 : FI := mkFI Tryz.f76 3 [.ag [.s, .s, .sl 110, .s, .s, .sl 119]] [(true, [.ct .s, .ct .s, .ct (.sl 127), .ct .s, .ct .s, .ct (.sl 130)])] (fun _ => (.s (.r [0, 1] none) (.s (.r [2] none) .n)))
noncomputable def fi77 : FI := mkFI Tryz.f77 3 [.ag [.s, .s, .s, .s, .b, .i .i64, .s, .sl 108, .sl 9, .sl 119]] [(true, [.ct .s, .ct .s, .ct .s, .ct .s, .ct .b, .ct (.i .i64), .ct .s, .ct (.sl 125), .ct (.sl 9), .ct (.sl 130)])] (fun _ => (.s (.r [0, 1] none) (.s (.r [2] none) .n)))
noncomputable def fi78 : FI := mkFI Tryz.f78 3 [.ag [.s, .s, .sl 119]] [(true, [.ct .s, .ct .s, .ct (.sl 130)])] (fun _ => (.s (.r [0, 1] none) (.s (.r [2] none) .n)))
noncomputable def fi79 : FI := mkFI Tryz.f79 3 [.ag [.i .i64, .s]] [(true, [.ct (.i .i64), .ct .s])] (fun _ => (.s (.r [0, 1] none) (.s (.r [2] none) .n)))
noncomputable def fi80 : FI := mkFI Tryz.f80 3 [.ag [.s, .sl 203]] [(true, [.ct .s, .ct (.sl 133)])] (fun _ => (.s (.r [0, 1] none) (.s (.r [2] none) .n)))
noncomputable def fi68 : FI := mkFI Tryz.f68 0 [.ct .s] [(false, [.ct .s])] (fun _ => (.s .n (.s (.s (.r [] (some ⟨os :: uu 12 (ob :: uu 71 []), []⟩)) .n) (.s .n (.s (.s .n (.b (.b (.s .n (.s (.b (.s .n (.b (.s (.r [] (some ⟨os :: ou :: ou :: os :: oi :: .one (.i .u8) :: uu 24 (ob :: uu 54 []), []⟩)) (.c .n (.s .n (.c .n (.s .n (.c .n (.s .n (.c .n (.s .n (.c .n (.s .n (.c .n (.s (.r [] (some ⟨os :: ou :: ou :: os :: oi :: .one (.i .u8) :: uu 64 (ob :: uu 14 []), []⟩)) (.c .n .n (some ⟨os :: ou :: ou :: os :: oi :: uu 80 [], []⟩))) (some ⟨os :: ou :: ou :: os :: oi :: uu 80 [], []⟩))) (some ⟨os :: ou :: ou :: os :: oi :: uu 80 [], []⟩))) (some ⟨os :: ou :: ou :: os :: oi :: uu 80 [], []⟩))) (some ⟨os :: ou :: ou :: os :: oi :: uu 80 [], []⟩))) (some ⟨os :: ou :: ou :: os :: oi :: uu 80 [], []⟩))) (some ⟨os :: ou :: ou :: os :: oi :: uu 80 [], []⟩))) ⟨os :: ou :: ou :: os :: oi :: uu 80 [], []⟩)) ⟨os :: ou :: ou :: os :: oi :: uu 80 [], []⟩) .n)) ⟨os :: ou :: ou :: os :: oi :: uu 80 [], []⟩) ⟨uu 3 (os :: uu 81 []), []⟩)) .n)))))
noncomputable def fi69 : FI := mkFI Tryz.f69 0 [.ct .s] [(false, [.ct .b])] (fun _ => (.s .n (.s (.s .n (.b (.s (.s .n (.c .n (.s .n (.c .n (.s .n (.c .n (.s .n (.c .n (.s .n (.c .n (.s .n (.c .n (.s .n (.c .n (.s .n (.c .n (.s .n (.c .n (.s .n (.c .n (.s .n (.c .n (.s .n (.c .n (.s .n (.c .n (.s .n (.c .n (.s .n (.c .n (.s .n (.c .n (.s .n (.c .n (.s .n (.c .n .n (some ⟨uu 4 (ob :: uu 19 []), []⟩))) (some ⟨uu 4 (ob :: uu 19 []), []⟩))) (some ⟨uu 4 (ob :: uu 19 []), []⟩))) (some ⟨uu 4 (ob :: uu 19 []), []⟩))) (some ⟨uu 4 (ob :: uu 19 []), []⟩))) (some ⟨uu 4 (ob :: uu 19 []), []⟩))) (some ⟨uu 4 (ob :: uu 19 []), []⟩))) (some ⟨uu 4 (ob :: uu 19 []), []⟩))) (some ⟨uu 4 (ob :: uu 19 []), []⟩))) (some ⟨uu 4 (ob :: uu 19 []), []⟩))) (some ⟨uu 4 (ob :: uu 19 []), []⟩))) (some ⟨uu 4 (ob :: uu 19 []), []⟩))) (some ⟨uu 4 (ob :: uu 19 []), []⟩))) (some ⟨uu 4 (ob :: uu 19 []), []⟩))) (some ⟨uu 4 (ob :: uu 19 []), []⟩))) (some ⟨uu 4 (ob :: uu 19 []), []⟩))) (some ⟨uu 4 (ob :: uu 19 []), []⟩))) (some ⟨uu 4 (ob :: uu 19 []), []⟩))) .n) ⟨uu 24 [], []⟩)) .n)))
noncomputable def fi70 : FI := mkFI Tryz.f70 0 [.ct (.i .u8)] [(false, [.ct .b])] (fun _ => (.s .n (.s (.r [] (some ⟨ou :: ou :: ob :: uu 6 [], []⟩)) .n)))
noncomputable def fi71 : FI := mkFI Tryz.f71 0 [.ct (.i .u8)] [(false, [.ct .b])] (fun _ => (.s .n (.s (.r [] (some ⟨ou :: ou :: ob :: uu 18 [], []⟩)) .n)))
noncomputable def fi72 : FI := mkFI Tryz.f72 1 [.ag [.s, .s, .s, .s, .b, .i .i64, .s, .sl 125, .sl 9, .sl 130]] [(false, [.ct .b])] (fun _ => (.s (.r [0, 0] none) (.s (.r [] (some ⟨ou :: ou :: ob :: uu 25 [], .u :: []⟩)) .n)))
noncomputable def fi73 : FI := mkFI Tryz.f73 1 [.ag [.i .i64, .s, .sl 125, .sl 9]] [(false, [.ct .b])] (fun _ => (.s (.r [0, 0] none) .n))
noncomputable def fi74 : FI := mkFI Tryz.f74 0 [.ct (.sl 130)] [(false, [.ct .b])] (fun _ => (.s .n (.s (.s .n (.b (.b (.s .n (.s (.b (.s (.r [] (some ⟨ol 130 :: ou :: ou :: oi :: uu 21 (ob :: []), []⟩)) .n) ⟨ol 130 :: ou :: ou :: oi :: uu 22 [], []⟩) .n)) ⟨ol 130 :: ou :: ou :: oi :: uu 22 [], []⟩) ⟨uu 26 [], []⟩)) .n)))
noncomputable def fi75 : FI := mkFI Tryz.f75 1 [.ag [.s, .s]] [(false, [.ct .b])] (fun _ => (.s (.r [0, 0] none) (.s (.s (.r [] (some ⟨ou :: .one (.ptr 0 0) :: uu 11 (ob :: uu 38 []), .var 65 [.s, .s] :: []⟩)) .n) (.s (.s .n (.b (.b (.s .n (.s (.b (.s (.r [] (some ⟨ou :: .one (.ptr 0 0) :: ou :: oi :: uu 47 (ob :: []), .var 65 [.s, .s] :: []⟩)) .n) ⟨ou :: .one (.ptr 0 0) :: ou :: oi :: uu 48 [], .var 65 [.s, .s] :: []⟩) .n)) ⟨ou :: .one (.ptr 0 0) :: ou :: oi :: uu 48 [], .var 65 [.s, .s] :: []⟩) ⟨uu 52 [], .u :: []⟩)) .n))))
noncomputable def fi81 : FI := mkFI Tryz.f81 16 [.ct .s] [(false, [.ct .s])] (fun _ => (.s .n (.s (.s (.r [] (some ⟨os :: uu 13 (ob :: uu 44 []), vv 16 []⟩)) .n) (.s (.r [0, 0] none) (.s (.s .n (.b (.b (.s .n (.s .n (.s (.b (.s .n (.s .n (.s .n (.b (.s .n (.c (.r [0, 0, 0, 2, 3, 0] none) (.s (.r [] (some ⟨os :: ou :: ou :: .one (.own 5 4) :: ou :: .one (.i .u8) :: uu 11 (oi :: oi :: uu 19 (ob :: uu 20 [])), vv 16 []⟩)) (.c (.r [0, 0, 0, 0, 0, 0, 0, 5, 6, 0] none) (.r [0, 0, 7, 8, 0] none) (some ⟨os :: ou :: ou :: .one (.own 5 9) :: uu 13 (oi :: oi :: uu 40 []), vv 16 []⟩))) (some ⟨os :: ou :: ou :: .one (.own 5 10) :: uu 13 (oi :: oi :: uu 40 []), vv 16 []⟩))) ⟨os :: ou :: ou :: .one (.own 5 11) :: uu 13 (oi :: oi :: uu 40 []), vv 16 []⟩)))) ⟨os :: ou :: ou :: .one (.own 5 12) :: uu 13 (oi :: oi :: uu 40 []), vv 16 []⟩) .n))) ⟨os :: ou :: ou :: .one (.own 5 1) :: uu 13 (oi :: oi :: uu 40 []), vv 16 []⟩) ⟨uu 3 (.one (.own 5 13) :: uu 55 []), vv 16 []⟩)) (.s (.r [0, 14, 15, 0, 0] none) .n))))))
noncomputable def fi82 : FI := mkFI Tryz.f82 0 [.ct (.sl 67), .fn] [(false, [.ct .b])] (fun _ => .n)
noncomputable def fi85 : FI := mkFI Tryz.f85 0 [.ct (.sl 127)] [(false, [.ct .b])] (fun _ => .n)
noncomputable def fi86 : FI := mkFI Tryz.f86 0 [.ct (.sl 69), .fn] [(false, [.ct .b])] (fun _ => .n)
noncomputable def fi89 : FI := mkFI Tryz.f89 0 [.ct (.sl 72), .fn] [(false, [.ct .b])] (fun _ => .n)
noncomputable def fi93 : FI := mkFI Tryz.f93 0 [.ct (.sl 130)] [(false, [.ct .b])] (fun _ => (.s .n (.s (.r [] (some ⟨ou :: ou :: ob :: uu 7 [], []⟩)) .n)))
noncomputable def fi94 : FI := mkFI Tryz.f94 0 [.ct (.i .u8)] [(false, [.ct .b])] (fun _ => (.s .n (.s (.r [] (some ⟨ou :: ou :: ob :: uu 6 [], []⟩)) .n)))
noncomputable def fi95 : FI := mkFI Tryz.f95 0 [.ct (.i .u8)] [(false, [.ct .b])] (fun _ => (.s .n (.s (.r [] (some ⟨ou :: ou :: ob :: uu 10 [], []⟩)) .n)))
noncomputable def fi96 : FI := mkFI Tryz.f96 0 [.ct (.sl 9), .fn] [(false, [.ct (.i .i64)])] (fun h => match h.tm with
    | [_, .one (.fn 44 _)] => (.s .n (.s (.s .n (.b (.b (.s .n (.s .n (.s (.b .n ⟨ol 9 :: .one (.fn 44 []) :: uu 5 (oi :: oi :: uu 10 []), []⟩) .n))) ⟨ol 9 :: .one (.fn 44 []) :: uu 5 (oi :: oi :: uu 10 []), []⟩) ⟨uu 19 [], []⟩)) .n))
    | [_, .one (.fn 92 _)] => (.s .n (.s (.s .n (.b (.b (.s .n (.s .n (.s (.b .n ⟨ol 9 :: .one (.fn 92 []) :: uu 5 (oi :: oi :: uu 10 []), []⟩) .n))) ⟨ol 9 :: .one (.fn 92 []) :: uu 5 (oi :: oi :: uu 10 []), []⟩) ⟨uu 19 [], []⟩)) .n))
    | [_, .one (.fn 228 _)] => (.s .n (.s (.s .n (.b (.b (.s .n (.s .n (.s (.b .n ⟨ol 9 :: .one (.fn 228 []) :: uu 5 (oi :: oi :: uu 10 []), []⟩) .n))) ⟨ol 9 :: .one (.fn 228 []) :: uu 5 (oi :: oi :: uu 10 []), []⟩) ⟨uu 19 [], []⟩)) .n))
    | _ => .n)
noncomputable def fi97 : FI := mkFI Tryz.f97 2 [.ag [.s, .s, .sl 127, .s, .s, .sl 130], .ag [.s, .s, .sl 127, .s, .s, .sl 130]] [(false, [.ct .b])] (fun _ => (.s (.r [0, 1, 0] none) .n))
noncomputable def fi98 : FI := mkFI Tryz.f98 2 [.ag [.s, .s, .s, .s, .b, .i .i64, .s, .sl 125, .sl 9, .sl 130], .ag [.s, .s, .s, .s, .b, .i .i64, .s, .sl 125, .sl 9, .sl 130]] [(false, [.ct .b])] (fun _ => (.s (.r [0, 1, 0] none) .n))
noncomputable def fi99 : FI := mkFI Tryz.f99 2 [.ag [.s, .s, .sl 130], .ag [.s, .s, .sl 130]] [(false, [.ct .b])] (fun _ => (.s (.r [0, 1, 0] none) .n))
noncomputable def fi100 : FI := mkFI Tryz.f100 2 [.ag [.i .i64, .s], .ag [.i .i64, .s]] [(false, [.ct .b])] (fun _ => (.s (.r [0, 1, 0] none) .n))
noncomputable def fi101 : FI := mkFI Tryz.f101 2 [.ag [.s, .sl 133], .ag [.s, .sl 133]] [(false, [.ct .b])] (fun _ => (.s (.r [0, 1, 0] none) .n))
noncomputable def fi102 : FI := mkFI Tryz.f102 1 [.ag [.i .i64, .i .i64, .s, .sl 244, .sl 119, .sl 247, .s, .s, .sl 119, .sl 247, .i .i64, .b, .s, .s, .sl 9, .sl 104, .sl 110, .sl 113, .sl 115, .b, .sl 119], .ct (.i .i64)] [(false, [.ct (.i .i64)])] (fun _ => (.s (.r [0, 0] none) .n))
noncomputable def fi105 : FI := mkFI Tryz.f105 3 [.ag [.i .i64, .i .i64, .s, .sl 244, .sl 119, .sl 247, .s, .s, .sl 119, .sl 247, .i .i64, .b, .s, .s, .sl 9, .sl 104, .sl 110, .sl 113, .sl 115, .b, .sl 119]] [(true, [.ct (.i .i64), .ct (.i .i64), .ct .s, .ct (.sl 162), .ct (.sl 130), .ct (.sl 193), .ct .s, .ct .s, .ct (.sl 130), .ct (.sl 193), .ct (.i .i64), .ct .b, .ct .s, .ct .s, .ct (.sl 9), .ct (.sl 67), .ct (.sl 127), .ct (.sl 69), .ct (.sl 72), .ct .b, .ct (.sl 130)])] (fun _ => (.s (.r [0, 1] none) (.s (.r [2] none) .n)))
noncomputable def fi103 : FI := mkFI Tryz.f103 1 [.ag [.s, .s, .s, .b, .i .i64, .s, .sl 125, .sl 9, .sl 130]] [(false, [.ct .b])] (fun _ => (.s (.r [0, 0] none) (.s (.r [] (some ⟨ou :: ou :: ob :: uu 20 [], .u :: []⟩)) .n)))
noncomputable def fi104 : FI := mkFI Tryz.f104 0 [.ct (.sl 193)] [(false, [.ct .b])] (fun _ => (.s .n (.s .n (.s (.s .n (.b (.b (.s (.s (.r [] (some ⟨ol 193 :: ou :: ou :: oi :: oi :: uu 8 (ob :: uu 26 []), []⟩)) .n) (.s (.b .n ⟨ol 193 :: ou :: ou :: oi :: oi :: uu 35 [], []⟩) .n)) ⟨ol 193 :: ou :: ou :: oi :: oi :: uu 35 [], []⟩) ⟨ol 193 :: ou :: ou :: oi :: uu 36 [], []⟩)) (.s (.s .n (.b (.b (.s (.s (.r [] (some ⟨ol 193 :: ou :: ou :: oi :: ou :: oi :: uu 23 (ob :: uu 10 []), []⟩)) .n) (.s (.b .n ⟨ol 193 :: ou :: ou :: oi :: ou :: oi :: uu 34 [], []⟩) .n)) ⟨ol 193 :: ou :: ou :: oi :: ou :: oi :: uu 34 [], []⟩) ⟨uu 3 (oi :: uu 36 []), []⟩)) .n)))))
noncomputable def fi106 : FI := mkFI Tryz.f106 0 [.ct (.sl 94), .fn] [(false, [.ct (.i .i64)])] (fun _ => (.s .n (.s (.s .n (.b (.b (.s .n (.s .n (.s (.b .n ⟨ol 94 :: .one (.fn 60 []) :: uu 5 (oi :: oi :: uu 10 []), []⟩) .n))) ⟨ol 94 :: .one (.fn 60 []) :: uu 5 (oi :: oi :: uu 10 []), []⟩) ⟨uu 19 [], []⟩)) .n)))
noncomputable def fi112 : FI := mkFI Tryz.f112 2 [.ag [.i .i64, .i .i64, .s, .sl 162, .sl 130, .sl 193, .s, .s, .sl 130, .sl 193, .i .i64, .b, .s, .s, .sl 9, .sl 67, .sl 127, .sl 69, .sl 72, .b, .sl 130], .ag [.i .i64, .i .i64, .s, .sl 162, .sl 130, .sl 193, .s, .s, .sl 130, .sl 193, .i .i64, .b, .s, .s, .sl 9, .sl 67, .sl 127, .sl 69, .sl 72, .b, .sl 130]] [(false, [.ct .b])] (fun _ => (.s (.r [0, 1, 0] none) .n))
noncomputable def fi113 : FI := mkFI Tryz.f113 1 [.ag [.s, .s], .ct (.i .i64)] [(false, [.ct (.i .i64)])] (fun _ => (.s (.r [0, 0] none) .n))
noncomputable def fi114 : FI := mkFI Tryz.f114 1 [.ag [.i .i64, .s, .sl 108, .sl 9], .ct (.i .i64)] [(false, [.ct (.i .i64)])] (fun _ => (.s (.r [0, 0] none) .n))
noncomputable def fi115 : FI := mkFI Tryz.f115 0 [.ct (.sl 203), .ct (.i .i64)] [(false, [.ct (.i .i64)])] (fun _ => (.s .n (.s .n (.s .n (.s (.s .n (.b (.b (.s .n (.s (.b .n ⟨ol 203 :: oi :: uu 3 (oi :: uu 21 []), []⟩) .n)) ⟨ol 203 :: oi :: uu 3 (oi :: uu 21 []), []⟩) ⟨ou :: oi :: uu 25 [], []⟩)) .n)))))
noncomputable def fi121 : FI := mkFI Tryz.f121 3 [.ag [.s, .s]] [(true, [.ct .s, .ct .s])] (fun _ => (.s (.r [0, 1] none) (.s (.r [2] none) .n)))
noncomputable def fi122 : FI := mkFI Tryz.f122 3 [.ag [.i .i64, .s, .sl 108, .sl 9]] [(true, [.ct (.i .i64), .ct .s, .ct (.sl 125), .ct (.sl 9)])] (fun _ => (.s (.r [0, 1] none) (.s (.r [2] none) .n)))
noncomputable def fi123 : FI := mkFI Tryz.f123 4 [.ct (.sl 203)] [(false, [.ct (.sl 133)])] (fun _ => (.s .n (.s (.r [0, 0, 0, 0] none) (.s (.s .n (.b (.b (.s .n (.s (.b .n ⟨ol 203 :: ou :: ou :: .one (.own 133 2) :: oi :: uu 18 [], vv 4 []⟩) .n)) ⟨ol 203 :: ou :: ou :: .one (.own 133 1) :: oi :: uu 18 [], vv 4 []⟩) ⟨uu 3 (.one (.own 133 3) :: uu 19 []), vv 4 []⟩)) .n))))
noncomputable def fi116 : FI := mkFI Tryz.f116 0 [.ct .s] [(false, [.ct .b])] (fun _ => (.s .n (.s (.s .n (.b (.b (.s .n (.b .n ⟨os :: ou :: ou :: oi :: uu 17 [], []⟩)) ⟨os :: ou :: ou :: oi :: uu 17 [], []⟩) ⟨uu 21 [], []⟩)) .n)))
noncomputable def fi117 : FI := mkFI Tryz.f117 1 [.ct (.i .i64)] [(false, [.ct .s])] (fun _ => (.s .n (.s .n (.s (.r [0, 0, 0, 0, 0, 0, 0, 0, 0, 0, 0, 0, 0, 0, 0, 0, 0, 0, 0, 0, 0, 0] none) .n))))
noncomputable def fi118 : FI := mkFI Tryz.f118 1 [.ct .b, .ag [.i .i64, .s, .sl 125, .sl 9]] [(false, [.ct .b])] (fun _ => (.s (.r [0, 0] none) (.s (.s .n (.c (.s (.r [] (some ⟨uu 4 (ob :: uu 10 []), .u :: []⟩)) .n) .n none)) .n)))
noncomputable def fi119 : FI := mkFI Tryz.f119 1 [.ag [.i .i64, .s, .sl 125, .sl 9]] [(false, [.ct .b])] (fun _ => (.s (.r [0, 0] none) (.s (.s .n (.b (.b (.s .n (.s (.b .n ⟨ou :: .one (.ptr 0 0) :: ou :: oi :: uu 17 [], .var 125 [.i .i64, .s, .sl 125, .sl 9] :: []⟩) .n)) ⟨ou :: .one (.ptr 0 0) :: ou :: oi :: uu 17 [], .var 125 [.i .i64, .s, .sl 125, .sl 9] :: []⟩) ⟨ou :: .one (.ptr 0 0) :: uu 19 [], .var 125 [.i .i64, .s, .sl 125, .sl 9] :: []⟩)) .n)))
noncomputable def fi120 : FI := mkFI Tryz.f120 0 [.ct (.sl 133)] [(false, [.ct .b])] (fun _ => (.s .n (.s (.s .n (.b (.b (.s .n (.s (.b (.s (.r [] (some ⟨ol 133 :: ou :: ou :: oi :: uu 21 (ob :: []), []⟩)) .n) ⟨ol 133 :: ou :: ou :: oi :: uu 22 [], []⟩) .n)) ⟨ol 133 :: ou :: ou :: oi :: uu 22 [], []⟩) ⟨uu 26 [], []⟩)) .n)))
noncomputable def fi124 : FI := mkFI Tryz.f124 0 [.ct .s] [(false, [.ct .b])] (fun _ => .n)
noncomputable def fi125 : FI := mkFI Tryz.f125 0 [.ct .s, .ct (.i .u8)] [(false, [.ct (.i .i64)])] (fun _ => .n)
noncomputable def fi126 : FI := mkFI Tryz.f126 0 [.ct (.sl 67), .fn] [(false, [.ct (.i .i64)])] (fun _ => (.s .n (.s (.s .n (.b (.b (.s .n (.s .n (.s (.b .n ⟨ol 67 :: .one (.fn 83 []) :: uu 5 (oi :: oi :: uu 10 []), []⟩) .n))) ⟨ol 67 :: .one (.fn 83 []) :: uu 5 (oi :: oi :: uu 10 []), []⟩) ⟨uu 19 [], []⟩)) .n)))
noncomputable def fi128 : FI := mkFI Tryz.f128 0 [.ct (.sl 127), .fn] [(false, [.ct .b])] (fun _ => .n)
noncomputable def fi131 : FI := mkFI Tryz.f131 0 [.ct (.sl 69), .fn] [(false, [.ct (.i .i64)])] (fun _ => (.s .n (.s (.s .n (.b (.b (.s .n (.s .n (.s (.b .n ⟨ol 69 :: .one (.fn 87 []) :: uu 5 (oi :: oi :: uu 10 []), []⟩) .n))) ⟨ol 69 :: .one (.fn 87 []) :: uu 5 (oi :: oi :: uu 10 []), []⟩) ⟨uu 19 [], []⟩)) .n)))
noncomputable def fi133 : FI := mkFI Tryz.f133 0 [.ct (.sl 72), .fn] [(false, [.ct (.i .i64)])] (fun _ => (.s .n (.s (.s .n (.b (.b (.s .n (.s .n (.s (.b .n ⟨ol 72 :: .one (.fn 90 []) :: uu 5 (oi :: oi :: uu 10 []), []⟩) .n))) ⟨ol 72 :: .one (.fn 90 []) :: uu 5 (oi :: oi :: uu 10 []), []⟩) ⟨uu 19 [], []⟩)) .n)))
noncomputable def fi135 : FI := mkFI Tryz.f135 0 [.ct (.sl 130)] [(false, [.ct .b])] (fun _ => .n)
noncomputable def fi136 : FI := mkFI Tryz.f136 0 [.ct (.sl 130), .fn] [(false, [.ct .b])] (fun _ => .n)
noncomputable def fi141 : FI := mkFI Tryz.f141 0 [.ct (.i .u8)] [(false, [.ct .b])] (fun _ => (.s .n (.s (.r [] (some ⟨ou :: ou :: ob :: uu 14 [], []⟩)) .n)))
noncomputable def fi44 : FI := mkFI Tryz.f44 0 [.ct .s] [(false, [.ct .b])] (fun _ => .n)
noncomputable def fi142 : FI := mkFI Tryz.f142 2 [.ag [.s, .s], .ag [.s, .s]] [(false, [.ct .b])] (fun _ => (.s (.r [0, 1, 0] none) .n))
noncomputable def fi143 : FI := mkFI Tryz.f143 2 [.ag [.i .i64, .s, .sl 125, .sl 9], .ag [.i .i64, .s, .sl 125, .sl 9]] [(false, [.ct .b])] (fun _ => (.s (.r [0, 1, 0] none) .n))
noncomputable def fi144 : FI := mkFI Tryz.f144 0 [.ct (.sl 133), .ct (.sl 133)] [(false, [.ct .b])] (fun _ => (.s .n (.s .n (.s (.s .n (.b (.b (.s .n (.s (.b .n ⟨ol 133 :: ol 133 :: uu 3 (oi :: uu 21 []), []⟩) .n)) ⟨ol 133 :: ol 133 :: uu 3 (oi :: uu 21 []), []⟩) ⟨uu 27 [], []⟩)) .n))))
noncomputable def fi145 : FI := mkFI Tryz.f145 1 [.ag [.i .i64, .s, .sl 244, .sl 119, .sl 247], .ct (.i .i64)] [(false, [.ct (.i .i64)])] (fun _ => (.s (.r [0, 0] none) .n))
noncomputable def fi146 : FI := mkFI Tryz.f146 1 [.ag [.s, .s, .sl 119, .sl 247], .ct (.i .i64)] [(false, [.ct (.i .i64)])] (fun _ => (.s (.r [0, 0] none) .n))
noncomputable def fi149 : FI := mkFI Tryz.f149 3 [.ag [.i .i64, .s, .sl 244, .sl 119, .sl 247]] [(true, [.ct (.i .i64), .ct .s, .ct (.sl 162), .ct (.sl 130), .ct (.sl 193)])] (fun _ => (.s (.r [0, 1] none) (.s (.r [2] none) .n)))
noncomputable def fi150 : FI := mkFI Tryz.f150 3 [.ag [.s, .s, .sl 119, .sl 247]] [(true, [.ct .s, .ct .s, .ct (.sl 130), .ct (.sl 193)])] (fun _ => (.s (.r [0, 1] none) (.s (.r [2] none) .n)))
noncomputable def fi147 : FI := mkFI Tryz.f147 1 [.ag [.i .i64, .s, .s, .s, .sl 133, .sl 130, .sl 193], .ct (.i .i64)] [(false, [.ct (.i .i64)])] (fun _ => (.s (.r [0, 0] none) (.s .n (.s (.s .n (.b (.b (.s (.s (.r [] (some ⟨ou :: oi :: .one (.ptr 0 0) :: ou :: ou :: oi :: uu 10 (ob :: uu 10 []), .var 193 [.i .i64, .s, .s, .s, .sl 133, .sl 130, .sl 193] :: []⟩)) .n) (.s (.b .n ⟨ou :: oi :: .one (.ptr 0 0) :: ou :: ou :: oi :: uu 21 [], .var 193 [.i .i64, .s, .s, .s, .sl 133, .sl 130, .sl 193] :: []⟩) .n)) ⟨ou :: oi :: .one (.ptr 0 0) :: ou :: ou :: oi :: uu 21 [], .var 193 [.i .i64, .s, .s, .s, .sl 133, .sl 130, .sl 193] :: []⟩) ⟨ou :: oi :: uu 25 [], .u :: []⟩)) .n))))
noncomputable def fi148 : FI := mkFI Tryz.f148 1 [.ag [.i .i64, .s, .s, .s, .sl 133, .sl 130, .sl 193], .ct (.i .i64)] [(false, [.ct .b])] (fun _ => (.s (.r [0, 0] none) (.s (.s (.r [] (some ⟨ou :: oi :: .one (.ptr 0 0) :: uu 21 (ob :: uu 16 []), .var 193 [.i .i64, .s, .s, .s, .sl 133, .sl 130, .sl 193] :: []⟩)) .n) (.s (.s .n (.b (.b (.s .n (.s (.b .n ⟨ou :: oi :: .one (.ptr 0 0) :: ou :: ou :: oi :: uu 35 [], .var 193 [.i .i64, .s, .s, .s, .sl 133, .sl 130, .sl 193] :: []⟩) .n)) ⟨ou :: oi :: .one (.ptr 0 0) :: ou :: ou :: oi :: uu 35 [], .var 193 [.i .i64, .s, .s, .s, .sl 133, .sl 130, .sl 193] :: []⟩) ⟨uu 41 [], .u :: []⟩)) .n))))
noncomputable def fi60 : FI := mkFI Tryz.f60 1 [.ag [.i .i64, .i .i64, .s, .sl 162, .sl 130, .sl 193, .s, .s, .sl 130, .sl 193, .i .i64, .b, .s, .s, .sl 9, .sl 67, .sl 127, .sl 69, .sl 72, .b, .sl 130]] [(false, [.ct .b])] (fun _ => (.s (.r [0, 0] none) .n))
noncomputable def fi155 : FI := mkFI Tryz.f155 2 [.ag [.i .i64, .s, .sl 162, .sl 130, .sl 193], .ag [.i .i64, .s, .sl 162, .sl 130, .sl 193]] [(false, [.ct .b])] (fun _ => (.s (.r [0, 1, 0] none) .n))
noncomputable def fi156 : FI := mkFI Tryz.f156 2 [.ag [.s, .s, .sl 130, .sl 193], .ag [.s, .s, .sl 130, .sl 193]] [(false, [.ct .b])] (fun _ => (.s (.r [0, 1, 0] none) .n))
noncomputable def fi157 : FI := mkFI Tryz.f157 0 [.ct (.sl 108), .ct (.i .i64)] [(false, [.ct (.i .i64)])] (fun _ => (.s .n (.s .n (.s .n (.s (.s .n (.b (.b (.s .n (.s (.b .n ⟨ol 108 :: oi :: uu 3 (oi :: uu 21 []), []⟩) .n)) ⟨ol 108 :: oi :: uu 3 (oi :: uu 21 []), []⟩) ⟨ou :: oi :: uu 25 [], []⟩)) .n)))))
noncomputable def fi158 : FI := mkFI Tryz.f158 1 [.ag [.s, .i .i64, .s, .sl 108, .sl 9], .ct (.i .i64)] [(false, [.ct (.i .i64)])] (fun _ => (.s (.r [0, 0] none) .n))
noncomputable def fi162 : FI := mkFI Tryz.f162 4 [.ct (.sl 108)] [(false, [.ct (.sl 125)])] (fun _ => (.s .n (.s (.r [0, 0, 0, 0] none) (.s (.s .n (.b (.b (.s .n (.s (.b .n ⟨ol 108 :: ou :: ou :: .one (.own 125 2) :: oi :: uu 18 [], vv 4 []⟩) .n)) ⟨ol 108 :: ou :: ou :: .one (.own 125 1) :: oi :: uu 18 [], vv 4 []⟩) ⟨uu 3 (.one (.own 125 3) :: uu 19 []), vv 4 []⟩)) .n))))
noncomputable def fi163 : FI := mkFI Tryz.f163 3 [.ag [.s, .i .i64, .s, .sl 108, .sl 9]] [(true, [.ct .s, .ct (.i .i64), .ct .s, .ct (.sl 125), .ct (.sl 9)])] (fun _ => (.s (.r [0, 1] none) (.s (.r [2] none) .n)))
noncomputable def fi159 : FI := mkFI Tryz.f159 0 [.ct .s, .ct (.i .i64)] [(false, [.ct (.i .i64)]), (false, [.ct (.i .i64)])] (fun _ => (.s .n (.s (.s (.r [] (some ⟨os :: oi :: uu 16 (ob :: uu 70 []), []⟩)) .n) (.s .n (.s .n (.s .n (.s (.b (.s .n (.c .n (.s (.r [] (some ⟨os :: oi :: uu 4 (oi :: uu 20 (ob :: uu 61 [])), []⟩)) (.c .n (.s (.r [] (some ⟨os :: oi :: uu 4 (oi :: uu 29 (ob :: uu 52 [])), []⟩)) (.c .n (.s (.r [] (some ⟨os :: oi :: uu 4 (oi :: uu 38 (ob :: uu 43 [])), []⟩)) .n) (some ⟨os :: oi :: uu 5 (oi :: oi :: uu 80 []), []⟩))) (some ⟨os :: oi :: uu 5 (oi :: oi :: uu 80 []), []⟩))) none)) ⟨os :: oi :: uu 5 (oi :: oi :: uu 80 []), []⟩) (.s .n (.s (.s .n (.b (.b (.s .n (.s (.b (.s .n (.s (.s (.r [] (some ⟨os :: oi :: uu 5 (oi :: oi :: oi :: oi :: uu 65 (ob :: uu 12 [])), []⟩)) .n) .n)) ⟨os :: oi :: uu 5 (oi :: oi :: oi :: uu 79 []), []⟩) .n)) ⟨os :: oi :: uu 5 (oi :: oi :: oi :: uu 79 []), []⟩) ⟨uu 7 (oi :: oi :: uu 80 []), []⟩)) .n)))))))))
noncomputable def fi160 : FI := mkFI Tryz.f160 1 [.ag [.i .i64, .s, .sl 125, .sl 9]] [(false, [.ct .b])] (fun _ => (.s (.r [0, 0] none) .n))
noncomputable def fi161 : FI := mkFI Tryz.f161 2 [.ag [.i .i64, .s, .sl 125, .sl 9], .ag [.i .i64, .s, .sl 125, .sl 9]] [(false, [.ct .b])] (fun _ => (.s (.r [0, 1, 0] none) (.s (.s (.r [] (some ⟨ou :: ou :: .one (.ptr 0 0) :: .one (.ptr 1 0) :: uu 32 (ob :: uu 37 []), .var 125 [.i .i64, .s, .sl 125, .sl 9] :: .var 125 [.i .i64, .s, .sl 125, .sl 9] :: []⟩)) .n) (.s (.s .n (.b (.b (.s .n (.s (.b .n ⟨ou :: ou :: .one (.ptr 0 0) :: .one (.ptr 1 0) :: ou :: oi :: uu 68 [], .var 125 [.i .i64, .s, .sl 125, .sl 9] :: .var 125 [.i .i64, .s, .sl 125, .sl 9] :: []⟩) .n)) ⟨ou :: ou :: .one (.ptr 0 0) :: .one (.ptr 1 0) :: ou :: oi :: uu 68 [], .var 125 [.i .i64, .s, .sl 125, .sl 9] :: .var 125 [.i .i64, .s, .sl 125, .sl 9] :: []⟩) ⟨ou :: ou :: .one (.ptr 0 0) :: .one (.ptr 1 0) :: uu 70 [], .var 125 [.i .i64, .s, .sl 125, .sl 9] :: .var 125 [.i .i64, .s, .sl 125, .sl 9] :: []⟩)) (.s (.s .n (.b (.b (.s .n (.s (.b .n ⟨ou :: ou :: .one (.ptr 0 0) :: .one (.ptr 1 0) :: ou :: ou :: oi :: uu 67 [], .var 125 [.i .i64, .s, .sl 125, .sl 9] :: .var 125 [.i .i64, .s, .sl 125, .sl 9] :: []⟩) .n)) ⟨ou :: ou :: .one (.ptr 0 0) :: .one (.ptr 1 0) :: ou :: ou :: oi :: uu 67 [], .var 125 [.i .i64, .s, .sl 125, .sl 9] :: .var 125 [.i .i64, .s, .sl 125, .sl 9] :: []⟩) ⟨uu 74 [], .u :: .u :: []⟩)) .n)))))
noncomputable def fi164 : FI := { mkFI Tryz.f164 0 [.ct .s] [(false, [.ct .b])] (fun _ => .n) with prim := some (primH [.s] [.b] qValidString) }
noncomputable def fi165 : FI := { mkFI Tryz.f165 0 [.ct .s, .ct (.i .u8)] [(false, [.ct (.i .i64)])] (fun _ => .n) with prim := some (primH [.s, .i .u8] [.i .i64] qIndexByte) }
noncomputable def fi83 : FI := mkFI Tryz.f83 1 [.ag [.s, .s, .sl 127, .s, .s, .sl 130]] [(false, [.ct .b])] (fun _ => (.s (.r [0, 0] none) .n))
noncomputable def fi168 : FI := mkFI Tryz.f168 0 [.ct (.sl 127), .fn] [(false, [.ct (.i .i64)])] (fun _ => (.s .n (.s (.s .n (.b (.b (.s .n (.s .n (.s (.b .n ⟨ol 127 :: .one (.fn 129 []) :: uu 5 (oi :: oi :: uu 10 []), []⟩) .n))) ⟨ol 127 :: .one (.fn 129 []) :: uu 5 (oi :: oi :: uu 10 []), []⟩) ⟨uu 19 [], []⟩)) .n)))
noncomputable def fi87 : FI := mkFI Tryz.f87 1 [.ag [.s, .s, .sl 130]] [(false, [.ct .b])] (fun _ => (.s (.r [0, 0] none) .n))
noncomputable def fi90 : FI := mkFI Tryz.f90 1 [.ag [.i .i64, .s]] [(false, [.ct .b])] (fun _ => (.s (.r [0, 0] none) .n))
noncomputable def fi92 : FI := mkFI Tryz.f92 0 [.ct .s] [(false, [.ct .b])] (fun _ => .n)
noncomputable def fi172 : FI := mkFI Tryz.f172 0 [.ct (.sl 130), .fn] [(false, [.ct (.i .i64)])] (fun h => match h.tm with
    | [_, .one (.fn 137 _)] => (.s .n (.s (.s .n (.b (.b (.s .n (.s .n (.s (.b .n ⟨ol 130 :: .one (.fn 137 []) :: uu 5 (oi :: oi :: uu 10 []), []⟩) .n))) ⟨ol 130 :: .one (.fn 137 []) :: uu 5 (oi :: oi :: uu 10 []), []⟩) ⟨uu 19 [], []⟩)) .n))
    | [_, .one (.fn 170 _)] => (.s .n (.s (.s .n (.b (.b (.s .n (.s .n (.s (.b .n ⟨ol 130 :: .one (.fn 170 []) :: uu 5 (oi :: oi :: uu 10 []), []⟩) .n))) ⟨ol 130 :: .one (.fn 170 []) :: uu 5 (oi :: oi :: uu 10 []), []⟩) ⟨uu 19 [], []⟩)) .n))
    | _ => .n)
noncomputable def fi45 : FI := mkFI Tryz.f45 0 [.ct .s] [(false, [.ct .b])] (fun _ => (.s .n (.s (.s .n (.b (.s (.s .n (.c .n (.s .n (.c .n (.s .n (.c .n (.s .n (.c .n (.s .n (.c .n (.s .n (.c .n (.s .n (.c .n (.s .n (.c .n (.s .n (.c .n (.s .n (.c .n (.s .n (.c .n (.s .n (.c .n (.s .n (.c .n (.s .n (.c .n (.s .n (.c .n (.s .n (.c .n (.s .n (.c .n (.s .n (.c .n .n (some ⟨uu 4 (ob :: uu 19 []), []⟩))) (some ⟨uu 4 (ob :: uu 19 []), []⟩))) (some ⟨uu 4 (ob :: uu 19 []), []⟩))) (some ⟨uu 4 (ob :: uu 19 []), []⟩))) (some ⟨uu 4 (ob :: uu 19 []), []⟩))) (some ⟨uu 4 (ob :: uu 19 []), []⟩))) (some ⟨uu 4 (ob :: uu 19 []), []⟩))) (some ⟨uu 4 (ob :: uu 19 []), []⟩))) (some ⟨uu 4 (ob :: uu 19 []), []⟩))) (some ⟨uu 4 (ob :: uu 19 []), []⟩))) (some ⟨uu 4 (ob :: uu 19 []), []⟩))) (some ⟨uu 4 (ob :: uu 19 []), []⟩))) (some ⟨uu 4 (ob :: uu 19 []), []⟩))) (some ⟨uu 4 (ob :: uu 19 []), []⟩))) (some ⟨uu 4 (ob :: uu 19 []), []⟩))) (some ⟨uu 4 (ob :: uu 19 []), []⟩))) (some ⟨uu 4 (ob :: uu 19 []), []⟩))) (some ⟨uu 4 (ob :: uu 19 []), []⟩))) .n) ⟨uu 24 [], []⟩)) .n)))
noncomputable def fi176 : FI := mkFI Tryz.f176 0 [.ct (.sl 125), .ct (.sl 125)] [(false, [.ct .b])] (fun _ => (.s .n (.s .n (.s (.s .n (.b (.b (.s .n (.s (.b .n ⟨ol 125 :: ol 125 :: uu 3 (oi :: uu 21 []), []⟩) .n)) ⟨ol 125 :: ol 125 :: uu 3 (oi :: uu 21 []), []⟩) ⟨uu 27 [], []⟩)) .n))))
noncomputable def fi177 : FI := mkFI Tryz.f177 2 [.ag [.s, .i .i64, .s, .sl 125, .sl 9], .ag [.s, .i .i64, .s, .sl 125, .sl 9]] [(false, [.ct .b])] (fun _ => (.s (.r [0, 1, 0] none) .n))
noncomputable def fi178 : FI := mkFI Tryz.f178 0 [.ct (.sl 244), .ct (.i .i64)] [(false, [.ct (.i .i64)])] (fun _ => (.s .n (.s .n (.s .n (.s (.s .n (.b (.b (.s .n (.s (.b .n ⟨ol 244 :: oi :: uu 3 (oi :: uu 21 []), []⟩) .n)) ⟨ol 244 :: oi :: uu 3 (oi :: uu 21 []), []⟩) ⟨ou :: oi :: uu 25 [], []⟩)) .n)))))
noncomputable def fi179 : FI := mkFI Tryz.f179 0 [.ct (.sl 247), .ct (.i .i64)] [(false, [.ct (.i .i64)])] (fun _ => (.s .n (.s .n (.s .n (.s (.s .n (.b (.b (.s .n (.s (.b .n ⟨ol 247 :: oi :: uu 3 (oi :: uu 21 []), []⟩) .n)) ⟨ol 247 :: oi :: uu 3 (oi :: uu 21 []), []⟩) ⟨ou :: oi :: uu 25 [], []⟩)) .n)))))
noncomputable def fi181 : FI := mkFI Tryz.f181 4 [.ct (.sl 244)] [(false, [.ct (.sl 162)])] (fun _ => (.s .n (.s (.r [0, 0, 0, 0] none) (.s (.s .n (.b (.b (.s .n (.s (.b .n ⟨ol 244 :: ou :: ou :: .one (.own 162 2) :: oi :: uu 18 [], vv 4 []⟩) .n)) ⟨ol 244 :: ou :: ou :: .one (.own 162 1) :: oi :: uu 18 [], vv 4 []⟩) ⟨uu 3 (.one (.own 162 3) :: uu 19 []), vv 4 []⟩)) .n))))
noncomputable def fi182 : FI := mkFI Tryz.f182 4 [.ct (.sl 247)] [(false, [.ct (.sl 193)])] (fun _ => (.s .n (.s (.r [0, 0, 0, 0] none) (.s (.s .n (.b (.b (.s .n (.s (.b .n ⟨ol 247 :: ou :: ou :: .one (.own 193 2) :: oi :: uu 18 [], vv 4 []⟩) .n)) ⟨ol 247 :: ou :: ou :: .one (.own 193 1) :: oi :: uu 18 [], vv 4 []⟩) ⟨uu 3 (.one (.own 193 3) :: uu 19 []), vv 4 []⟩)) .n))))
noncomputable def fi180 : FI := mkFI Tryz.f180 1 [.ag [.i .i64, .s, .s, .s, .sl 133, .sl 130, .sl 193]] [(false, [.ct .b])] (fun _ => (.s (.r [0, 0] none) (.s (.s .n (.b (.s .n (.c (.s (.r [] (some ⟨ou :: ou :: ob :: uu 86 [], .u :: []⟩)) .n) (.s .n (.c (.s (.r [] (some ⟨ou :: ou :: ob :: uu 86 [], .u :: []⟩)) .n) (.s .n (.c (.s (.r [] (some ⟨ou :: ou :: ob :: uu 86 [], .u :: []⟩)) .n) .n none)) none)) none)) ⟨uu 89 [], .u :: []⟩)) .n)))
noncomputable def fi61 : FI := mkFI Tryz.f61 1 [.ag [.i .i64, .i .i64, .s, .sl 162, .sl 130, .sl 193, .s, .s, .sl 130, .sl 193, .i .i64, .b, .s, .s, .sl 9, .sl 67, .sl 127, .sl 69, .sl 72, .b, .sl 130]] [(false, [.ct .b])] (fun _ => (.s (.r [0, 0] none) (.s (.s .n (.b (.s .n (.c (.s (.r [] (some ⟨ou :: ou :: ob :: uu 47 [], .u :: []⟩)) .n) (.s .n (.c (.s (.r [] (some ⟨ou :: ou :: ob :: uu 47 [], .u :: []⟩)) .n) (.s .n (.c (.s (.r [] (some ⟨ou :: ou :: ob :: uu 47 [], .u :: []⟩)) .n) .n none)) none)) none)) ⟨uu 50 [], .u :: []⟩)) .n)))
noncomputable def fi185 : FI := mkFI Tryz.f185 0 [.ct (.sl 162), .ct (.sl 162)] [(false, [.ct .b])] (fun _ => (.s .n (.s .n (.s (.s .n (.b (.b (.s .n (.s (.b .n ⟨ol 162 :: ol 162 :: uu 3 (oi :: uu 21 []), []⟩) .n)) ⟨ol 162 :: ol 162 :: uu 3 (oi :: uu 21 []), []⟩) ⟨uu 27 [], []⟩)) .n))))
noncomputable def fi186 : FI := mkFI Tryz.f186 0 [.ct (.sl 193), .ct (.sl 193)] [(false, [.ct .b])] (fun _ => (.s .n (.s .n (.s (.s .n (.b (.b (.s .n (.s (.b .n ⟨ol 193 :: ol 193 :: uu 3 (oi :: uu 21 []), []⟩) .n)) ⟨ol 193 :: ol 193 :: uu 3 (oi :: uu 21 []), []⟩) ⟨uu 27 [], []⟩)) .n))))
noncomputable def fi187 : FI := mkFI Tryz.f187 4 [.ct (.i .i64)] [(false, [.ct .s])] (fun _ => (.s .n (.s .n (.s (.b (.s .n (.c (.s (.r [0, 0, 0, 0, 0] none) .n) (.s .n (.c (.s (.r [0, 0, 0, 0, 0, 0, 0, 0, 1, 0, 0] none) .n) (.s .n (.c (.s (.r [0, 0, 0, 0, 0, 0, 0, 0, 0, 0, 0, 0, 0, 2, 0, 0] none) .n) .n none)) none)) none)) ⟨oi :: uu 63 [], vv 4 []⟩) (.s (.r [0, 0, 0, 0, 0, 0, 0, 0, 0, 0, 0, 0, 0, 0, 0, 0, 0, 0, 3, 0, 0] none) .n)))))
noncomputable def fi188 : FI := mkFI Tryz.f188 1 [.ag [.i .i64, .s, .sl 125, .sl 9], .ct (.i .i64)] [(false, [.ct .b])] (fun _ => (.s (.r [0, 0] none) (.s .n (.s (.r [] (some ⟨ou :: oi :: .one (.ptr 0 0) :: ou :: ou :: ob :: uu 82 [], .var 125 [.i .i64, .s, .sl 125, .sl 9] :: []⟩)) (.s (.s (.r [] (some ⟨ou :: oi :: .one (.ptr 0 0) :: uu 54 (ob :: uu 30 []), .var 125 [.i .i64, .s, .sl 125, .sl 9] :: []⟩)) .n) (.s (.s .n (.b (.b (.s .n (.s (.b (.s (.r [] (some ⟨ou :: oi :: .one (.ptr 0 0) :: uu 3 (oi :: uu 80 (ob :: [])), .var 125 [.i .i64, .s, .sl 125, .sl 9] :: []⟩)) .n) ⟨ou :: oi :: .one (.ptr 0 0) :: uu 3 (oi :: uu 81 []), .var 125 [.i .i64, .s, .sl 125, .sl 9] :: []⟩) .n)) ⟨ou :: oi :: .one (.ptr 0 0) :: uu 3 (oi :: uu 81 []), .var 125 [.i .i64, .s, .sl 125, .sl 9] :: []⟩) ⟨uu 88 [], .u :: []⟩)) .n))))))
noncomputable def fi84 : FI := mkFI Tryz.f84 1 [.ag [.s, .s, .sl 127, .s, .s, .sl 130]] [(false, [.ct .b])] (fun _ => (.s (.r [0, 0] none) (.s (.r [] (some ⟨ou :: ou :: ob :: uu 23 [], .u :: []⟩)) .n)))
noncomputable def fi129 : FI := mkFI Tryz.f129 1 [.ag [.s, .s, .s, .s, .b, .i .i64, .s, .sl 125, .sl 9, .sl 130]] [(false, [.ct .b])] (fun _ => (.s (.r [0, 0] none) .n))
noncomputable def fi88 : FI := mkFI Tryz.f88 1 [.ag [.s, .s, .sl 130]] [(false, [.ct .b])] (fun _ => (.s (.r [0, 0] none) (.s (.r [] (some ⟨ou :: ou :: ob :: uu 19 [], .u :: []⟩)) .n)))
noncomputable def fi91 : FI := mkFI Tryz.f91 1 [.ag [.i .i64, .s]] [(false, [.ct .b])] (fun _ => (.s (.r [0, 0] none) (.s (.r [] (some ⟨ou :: ou :: ob :: uu 9 [], .u :: []⟩)) .n)))
noncomputable def fi137 : FI := mkFI Tryz.f137 1 [.ag [.s, .sl 133]] [(false, [.ct .b])] (fun _ => (.s (.r [0, 0] none) .n))
noncomputable def fi203 : FI := mkFI Tryz.f203 1 [.ag [.s, .s, .s, .b, .i .i64, .s, .sl 108, .sl 9, .sl 119], .ct (.i .i64)] [(false, [.ct (.i .i64)])] (fun _ => (.s (.r [0, 0] none) .n))
noncomputable def fi204 : FI := mkFI Tryz.f204 1 [.ag [.i .i64, .s, .s, .s, .sl 203, .sl 119, .sl 247], .ct (.i .i64)] [(false, [.ct (.i .i64)])] (fun _ => (.s (.r [0, 0] none) .n))
noncomputable def fi205 : FI := mkFI Tryz.f205 3 [.ag [.s, .s, .s, .b, .i .i64, .s, .sl 108, .sl 9, .sl 119]] [(true, [.ct .s, .ct .s, .ct .s, .ct .b, .ct (.i .i64), .ct .s, .ct (.sl 125), .ct (.sl 9), .ct (.sl 130)])] (fun _ => (.s (.r [0, 1] none) (.s (.r [2] none) .n)))
noncomputable def fi206 : FI := mkFI Tryz.f206 3 [.ag [.i .i64, .s, .s, .s, .sl 203, .sl 119, .sl 247]] [(true, [.ct (.i .i64), .ct .s, .ct .s, .ct .s, .ct (.sl 133), .ct (.sl 130), .ct (.sl 193)])] (fun _ => (.s (.r [0, 1] none) (.s (.r [2] none) .n)))
noncomputable def fi107 : FI := mkFI Tryz.f107 1 [.ag [.i .i64, .s, .sl 162, .sl 130, .sl 193]] [(false, [.ct .b])] (fun _ => (.s (.r [0, 0] none) (.s (.r [] (some ⟨ou :: ou :: ob :: uu 30 [], .u :: []⟩)) .n)))
noncomputable def fi108 : FI := mkFI Tryz.f108 1 [.ag [.s, .s, .sl 130, .sl 193]] [(false, [.ct .b])] (fun _ => (.s (.r [0, 0] none) (.s (.r [] (some ⟨ou :: ou :: ob :: uu 20 [], .u :: []⟩)) .n)))
noncomputable def fi109 : FI := mkFI Tryz.f109 1 [.ag [.i .i64, .b, .s, .s, .sl 9, .sl 67, .sl 127, .sl 69, .sl 72, .b, .sl 130]] [(false, [.ct .b])] (fun _ => (.s (.r [0, 0] none) (.s (.r [] (some ⟨ou :: ou :: ob :: uu 28 [], .u :: []⟩)) .n)))
noncomputable def fi110 : FI := mkFI Tryz.f110 1 [.ag [.i .i64, .s, .sl 162, .sl 130, .sl 193]] [(false, [.ct .b])] (fun _ => (.s (.r [0, 0] none) (.s (.r [] (some ⟨ou :: ou :: ob :: uu 26 [], .u :: []⟩)) .n)))
noncomputable def fi111 : FI := mkFI Tryz.f111 1 [.ag [.s, .s, .sl 130, .sl 193]] [(false, [.ct .b])] (fun _ => (.s (.r [0, 0] none) (.s (.r [] (some ⟨ou :: ou :: ob :: uu 23 [], .u :: []⟩)) .n)))
noncomputable def fi207 : FI := mkFI Tryz.f207 2 [.ag [.s, .s, .s, .b, .i .i64, .s, .sl 125, .sl 9, .sl 130], .ag [.s, .s, .s, .b, .i .i64, .s, .sl 125, .sl 9, .sl 130]] [(false, [.ct .b])] (fun _ => (.s (.r [0, 1, 0] none) .n))
noncomputable def fi208 : FI := mkFI Tryz.f208 2 [.ag [.i .i64, .s, .s, .s, .sl 133, .sl 130, .sl 193], .ag [.i .i64, .s, .s, .s, .sl 133, .sl 130, .sl 193]] [(false, [.ct .b])] (fun _ => (.s (.r [0, 1, 0] none) .n))
noncomputable def fi209 : FI := mkFI Tryz.f209 0 [.ct (.i .i64)] [(false, [.ct .b])] (fun _ => (.s .n (.s (.r [] (some ⟨ou :: ou :: ob :: uu 7 [], []⟩)) .n)))
noncomputable def fi210 : FI := mkFI Tryz.f210 1 [.ag [.i .i64, .s, .sl 125, .sl 9]] [(false, [.ct .b])] (fun _ => (.s (.r [0, 0] none) (.s (.s .n (.b (.s .n (.c .n (.s .n (.c .n (.s .n (.c .n (.s .n (.c .n (.s .n (.c .n (.s .n (.c (.s (.r [] (some ⟨ou :: ou :: ob :: uu 45 [], .u :: []⟩)) .n) (.s (.s .n (.c .n .n (some ⟨ou :: .one (.ptr 0 0) :: uu 40 (ob :: uu 5 []), .var 125 [.i .i64, .s, .sl 125, .sl 9] :: []⟩))) .n) none)) none)) none)) none)) none)) none)) ⟨uu 48 [], .u :: []⟩)) .n)))
noncomputable def fi127 : FI := mkFI Tryz.f127 1 [.ag [.s, .s]] [(false, [.ct .b])] (fun _ => (.s (.r [0, 0] none) (.s (.r [] (some ⟨ou :: ou :: ob :: uu 21 [], .u :: []⟩)) .n)))
noncomputable def fi130 : FI := mkFI Tryz.f130 1 [.ag [.s, .s, .s, .s, .b, .i .i64, .s, .sl 125, .sl 9, .sl 130]] [(false, [.ct .b])] (fun _ => (.s (.r [0, 0] none) (.s (.r [] (some ⟨ou :: ou :: ob :: uu 25 [], .u :: []⟩)) .n)))
noncomputable def fi132 : FI := mkFI Tryz.f132 0 [.ct .s] [(false, [.ct .b])] (fun _ => (.s .n (.s (.r [] (some ⟨ou :: ou :: ob :: uu 10 [], []⟩)) .n)))
noncomputable def fi134 : FI := mkFI Tryz.f134 1 [.ct (.i .i64)] [(false, [.ct .s])] (fun _ => (.s .n (.s (.r [0, 0] none) .n)))
noncomputable def fi170 : FI := mkFI Tryz.f170 1 [.ag [.s, .sl 133]] [(false, [.ct .b])] (fun _ => (.s (.r [0, 0] none) (.s (.r [] (some ⟨ou :: ou :: ob :: uu 10 [], .u :: []⟩)) .n)))
noncomputable def fi138 : FI := mkFI Tryz.f138 0 [.ct (.sl 133), .fn] [(false, [.ct .b])] (fun _ => .n)
noncomputable def fi151 : FI := mkFI Tryz.f151 0 [.ct (.sl 162), .fn] [(false, [.ct .b])] (fun _ => .n)
noncomputable def fi154 : FI := mkFI Tryz.f154 2 [.ct (.sl 193)] [(false, [.ct .b])] (fun _ => (.s .n (.s (.r [0, 0, 0] none) (.s (.s .n (.b (.b (.s .n (.s .n (.s (.b (.s (.r [0, 0, 1, 0] none) .n) ⟨ol 193 :: ou :: ou :: .one (.ptr 0 0) :: uu 4 (ol 193 :: oi :: oi :: uu 11 []), .var 224 [.i .i64] :: .u :: []⟩) .n))) ⟨ol 193 :: ou :: ou :: .one (.ptr 0 0) :: uu 4 (ol 193 :: oi :: oi :: uu 11 []), .var 224 [.i .i64] :: .u :: []⟩) ⟨ol 193 :: uu 21 [], .u :: .u :: []⟩)) .n))))
noncomputable def fi218 : FI := mkFI Tryz.f218 0 [.ct .s] [(false, [.ct .b])] (fun _ => (.s .n (.s (.r [] (some ⟨ou :: ou :: ob :: uu 15 [], []⟩)) .n)))
noncomputable def fi219 : FI := mkFI Tryz.f219 0 [.ct .s] [(false, [.ct .b])] (fun _ => (.s .n (.s .n (.s (.s (.r [] (some ⟨os :: ou :: ou :: oi :: uu 16 (ob :: uu 60 []), []⟩)) .n) (.s (.s .n (.c .n .n (some ⟨os :: ou :: ou :: oi :: uu 77 [], []⟩))) (.s (.s (.r [] (some ⟨os :: ou :: ou :: oi :: uu 45 (ob :: uu 31 []), []⟩)) (.c (.s .n (.s (.s (.r [] (some ⟨os :: ou :: ou :: oi :: uu 63 (ob :: uu 13 []), []⟩)) (.c .n .n (some ⟨os :: ou :: ou :: oi :: uu 77 [], []⟩))) .n)) .n (some ⟨os :: ou :: ou :: oi :: uu 77 [], []⟩))) .n))))))
noncomputable def fi166 : FI := { mkFI Tryz.f166 0 [.ct .s, .ct .s] [(false, [.ct .s])] (fun _ => .n) with prim := some (primH [.s, .s] [.s] qTrim) }
noncomputable def fi167 : FI := { mkFI Tryz.f167 0 [.ct .s, .ct .s] [(false, [.ct .b])] (fun _ => .n) with prim := some (primH [.s, .s] [.b] qContains) }
noncomputable def fi169 : FI := mkFI Tryz.f169 1 [.ct .b, .ag [.i .i64, .s, .sl 125, .sl 9]] [(false, [.ct .b])] (fun _ => (.s (.r [0, 0] none) (.s .n (.s (.r [] (some ⟨uu 4 (ob :: uu 10 []), .u :: []⟩)) .n))))
noncomputable def fi171 : FI := mkFI Tryz.f171 0 [.ct (.sl 133)] [(false, [.ct .b])] (fun _ => .n)
noncomputable def fi173 : FI := mkFI Tryz.f173 0 [.ct (.sl 133), .fn] [(false, [.ct (.i .i64)])] (fun h => match h.tm with
    | [_, .one (.fn 139 _)] => (.s .n (.s (.s .n (.b (.b (.s .n (.s .n (.s (.b .n ⟨ol 133 :: .one (.fn 139 []) :: uu 5 (oi :: oi :: uu 10 []), []⟩) .n))) ⟨ol 133 :: .one (.fn 139 []) :: uu 5 (oi :: oi :: uu 10 []), []⟩) ⟨uu 19 [], []⟩)) .n))
    | [_, .one (.fn 201 _)] => (.s .n (.s (.s .n (.b (.b (.s .n (.s .n (.s (.b .n ⟨ol 133 :: .one (.fn 201 []) :: uu 5 (oi :: oi :: uu 10 []), []⟩) .n))) ⟨ol 133 :: .one (.fn 201 []) :: uu 5 (oi :: oi :: uu 10 []), []⟩) ⟨uu 19 [], []⟩)) .n))
    | _ => .n)
noncomputable def fi183 : FI := mkFI Tryz.f183 0 [.ct (.sl 162), .fn] [(false, [.ct (.i .i64)])] (fun _ => (.s .n (.s (.s .n (.b (.b (.s .n (.s .n (.s (.b .n ⟨ol 162 :: .one (.fn 152 []) :: uu 5 (oi :: oi :: uu 10 []), []⟩) .n))) ⟨ol 162 :: .one (.fn 152 []) :: uu 5 (oi :: oi :: uu 10 []), []⟩) ⟨uu 19 [], []⟩)) .n)))
noncomputable def fi184 : FI := mkFI Tryz.f184 3 [.ptr, .ag [.i .i64, .s, .s, .s, .sl 133, .sl 130, .sl 193], .ct (.i .i64)] [(false, [.ct .b])] (fun _ => (.s (.r [1, 0] none) (.s .n (.s (.s (.r [] (some ⟨.one (.ptr 0 0) :: ou :: oi :: ou :: .one (.ptr 1 0) :: uu 26 (ob :: uu 107 []), .var 224 [.i .i64] :: .var 193 [.i .i64, .s, .s, .s, .sl 133, .sl 130, .sl 193] :: .u :: []⟩)) .n) (.s .n (.s (.s .n (.b (.s .n (.c (.r [] (some ⟨.one (.ptr 0 0) :: ou :: oi :: ou :: .one (.ptr 1 0) :: ou :: ou :: ob :: uu 131 [], .var 224 [.i .i64] :: .var 193 [.i .i64, .s, .s, .s, .sl 133, .sl 130, .sl 193] :: .u :: []⟩)) (.s .n (.c (.r [] (some ⟨.one (.ptr 0 0) :: ou :: oi :: ou :: .one (.ptr 1 0) :: ou :: ou :: ob :: uu 131 [], .var 224 [.i .i64] :: .var 193 [.i .i64, .s, .s, .s, .sl 133, .sl 130, .sl 193] :: .u :: []⟩)) (.s .n (.c (.r [] (some ⟨.one (.ptr 0 0) :: ou :: oi :: ou :: .one (.ptr 1 0) :: ou :: ou :: ob :: uu 131 [], .var 224 [.i .i64] :: .var 193 [.i .i64, .s, .s, .s, .sl 133, .sl 130, .sl 193] :: .u :: []⟩)) .n (some ⟨.one (.ptr 0 0) :: ou :: oi :: ou :: .one (.ptr 1 0) :: ou :: ou :: ob :: uu 131 [], .var 224 [.i .i64] :: .var 193 [.i .i64, .s, .s, .s, .sl 133, .sl 130, .sl 193] :: .u :: []⟩))) (some ⟨.one (.ptr 0 0) :: ou :: oi :: ou :: .one (.ptr 1 0) :: ou :: ou :: ob :: uu 131 [], .var 224 [.i .i64] :: .var 193 [.i .i64, .s, .s, .s, .sl 133, .sl 130, .sl 193] :: .u :: []⟩))) (some ⟨.one (.ptr 0 0) :: ou :: oi :: ou :: .one (.ptr 1 0) :: ou :: ou :: ob :: uu 131 [], .var 224 [.i .i64] :: .var 193 [.i .i64, .s, .s, .s, .sl 133, .sl 130, .sl 193] :: .u :: []⟩))) ⟨.one (.ptr 0 0) :: ou :: oi :: ou :: .one (.ptr 1 0) :: ou :: ou :: ob :: uu 131 [], .var 224 [.i .i64] :: .var 193 [.i .i64, .s, .s, .s, .sl 133, .sl 130, .sl 193] :: .u :: []⟩)) (.s .n (.s (.s .n (.b (.b (.s .n (.s .n (.s (.b (.s (.r [0, 0, 2, 0] none) .n) ⟨.one (.ptr 0 0) :: ou :: oi :: uu 123 (ol 193 :: oi :: oi :: uu 10 []), .var 224 [.i .i64] :: .u :: .u :: []⟩) .n))) ⟨.one (.ptr 0 0) :: ou :: oi :: uu 123 (ol 193 :: oi :: oi :: uu 10 []), .var 224 [.i .i64] :: .u :: .u :: []⟩) ⟨uu 139 [], .var 224 [.i .i64] :: .u :: .u :: []⟩)) .n))))))))
noncomputable def fi230 : FI := mkFI Tryz.f230 0 [.ct .s] [(false, [.ct (.i .i64)])] (fun _ => (.s .n (.s .n (.s (.s (.r [] (some ⟨os :: ou :: ou :: oi :: uu 8 (ob :: uu 19 []), []⟩)) (.c .n .n (some ⟨os :: ou :: ou :: oi :: uu 28 [], []⟩))) (.s .n (.s (.s (.r [] (some ⟨uu 4 (oi :: uu 25 (ob :: ou :: [])), []⟩)) .n) .n))))))
noncomputable def fi231 : FI := mkFI Tryz.f231 0 [.ct .s, .ct (.i .i64)] [(false, [.ct (.i .i64)])] (fun _ => (.s .n (.s (.b (.b (.s (.s (.r [] (some ⟨os :: oi :: uu 12 (ob :: uu 3 []), []⟩)) .n) (.b .n ⟨os :: oi :: uu 16 [], []⟩)) ⟨os :: oi :: uu 16 [], []⟩) ⟨ou :: oi :: uu 16 [], []⟩) .n)))
noncomputable def fi199 : FI := mkFI Tryz.f199 1 [.ag [.i .i64, .s, .sl 125, .sl 9]] [(false, [.ct .b])] (fun _ => (.s (.r [0, 0] none) (.s (.r [] (some ⟨ou :: ou :: ob :: uu 12 [], .u :: []⟩)) .n)))
noncomputable def fi200 : FI := mkFI Tryz.f200 1 [.ag [.i .i64, .s, .sl 125, .sl 9]] [(false, [.ct .b])] (fun _ => (.s (.r [0, 0] none) .n))
noncomputable def fi140 : FI := mkFI Tryz.f140 1 [.ag [.i .i64, .s, .sl 125, .sl 9]] [(false, [.ct .b])] (fun _ => (.s (.r [0, 0] none) (.s (.r [] (some ⟨ou :: ou :: ob :: uu 9 [], .u :: []⟩)) .n)))
noncomputable def fi139 : FI := mkFI Tryz.f139 1 [.ag [.s, .i .i64, .s, .sl 125, .sl 9]] [(false, [.ct .b])] (fun _ => (.s (.r [0, 0] none) .n))
noncomputable def fi152 : FI := mkFI Tryz.f152 1 [.ag [.s, .s, .s, .b, .i .i64, .s, .sl 125, .sl 9, .sl 130]] [(false, [.ct .b])] (fun _ => (.s (.r [0, 0] none) .n))
noncomputable def fi216 : FI := mkFI Tryz.f216 1 [.ag [.i .i64, .s, .sl 125, .sl 9]] [(false, [.ct .b])] (fun _ => (.s (.r [0, 0] none) (.s (.r [] (some ⟨ou :: ou :: ob :: uu 10 [], .u :: []⟩)) .n)))
noncomputable def fi217 : FI := mkFI Tryz.f217 2 [.ag [.i .i64, .s, .sl 125, .sl 9], .ct (.i .i64)] [(false, [.ct .b])] (fun _ => (.s (.r [0, 1, 0] none) (.s (.s .n (.b (.s .n (.c (.s (.r [] (some ⟨uu 4 (ob :: uu 97 []), .u :: .u :: []⟩)) .n) (.s .n (.c (.s (.r [] (some ⟨uu 4 (ob :: uu 97 []), .u :: .u :: []⟩)) .n) (.s .n (.c (.s (.r [] (some ⟨uu 4 (ob :: uu 97 []), .u :: .u :: []⟩)) .n) (.s .n (.c (.s (.r [] (some ⟨uu 4 (ob :: uu 97 []), .u :: .u :: []⟩)) .n) (.s .n (.c (.s (.r [] (some ⟨uu 4 (ob :: uu 97 []), .u :: .u :: []⟩)) .n) (.s .n (.c (.s (.r [] (some ⟨uu 4 (ob :: uu 97 []), .u :: .u :: []⟩)) .n) (.s .n (.c .n (.s .n (.c (.s (.r [] (some ⟨ou :: ou :: .one (.ptr 0 0) :: .one (.ptr 1 0) :: uu 83 (ob :: uu 14 []), .var 125 [.i .i64, .s, .sl 125, .sl 9] :: .var 3 [.i .i64] :: []⟩)) .n) .n none)) (some ⟨ou :: ou :: .one (.ptr 0 0) :: .one (.ptr 1 0) :: uu 98 [], .var 125 [.i .i64, .s, .sl 125, .sl 9] :: .var 3 [.i .i64] :: []⟩))) none)) none)) none)) none)) none)) none)) ⟨ou :: ou :: .one (.ptr 0 0) :: .one (.ptr 1 0) :: uu 98 [], .var 125 [.i .i64, .s, .sl 125, .sl 9] :: .var 3 [.i .i64] :: []⟩)) (.s (.r [] (some ⟨uu 4 (ob :: uu 97 []), .u :: .u :: []⟩)) .n))))
noncomputable def fi174 : FI := mkFI Tryz.f174 1 [.ct (.sl 125), .fn] [(false, [.ct .b])] (fun _ => .n)
noncomputable def fi153 : FI := mkFI Tryz.f153 1 [.ag [.s, .s, .s, .b, .i .i64, .s, .sl 125, .sl 9, .sl 130]] [(false, [.ct .b])] (fun _ => (.s (.r [0, 0] none) (.s (.r [] (some ⟨ou :: ou :: ob :: uu 20 [], .u :: []⟩)) .n)))
noncomputable def fi226 : FI := mkFI Tryz.f226 0 [.ct .s] [(false, [.ct .b])] (fun _ => (.s .n (.s .n (.s (.r [] (some ⟨ou :: ou :: ob :: uu 19 [], []⟩)) .n))))
noncomputable def fi227 : FI := mkFI Tryz.f227 0 [.ct .s] [(false, [.ct .b])] (fun _ => (.s .n (.s .n (.s .n (.s .n (.s (.s .n (.c (.s .n (.s (.s (.r [] (some ⟨uu 3 (os :: os :: oi :: uu 29 (ob :: uu 28 [])), []⟩)) (.c .n .n (some ⟨uu 3 (os :: os :: oi :: uu 58 []), []⟩))) .n)) .n (some ⟨uu 3 (os :: ou :: oi :: uu 58 []), []⟩))) (.s .n (.s (.r [] (some ⟨ou :: ou :: ob :: uu 61 [], []⟩)) .n))))))))
noncomputable def fi202 : FI := mkFI Tryz.f202 1 [.ct (.sl 125), .fn] [(false, [.ct (.i .i64)])] (fun h => match h.tm with
    | [_, .one (.fn 175 _)] => (.s .n (.s (.s .n (.b (.b (.s .n (.s .n (.s (.b .n ⟨ol 125 :: .one (.fn 175 []) :: uu 5 (oi :: oi :: uu 10 []), .u :: []⟩) .n))) ⟨ol 125 :: .one (.fn 175 []) :: uu 5 (oi :: oi :: uu 10 []), .u :: []⟩) ⟨uu 19 [], .u :: []⟩)) .n))
    | [_, .one (.fn 229 _)] => (.s .n (.s (.s .n (.b (.b (.s .n (.s .n (.s (.b .n ⟨ol 125 :: .one (.fn 229 [0]) :: uu 5 (oi :: oi :: uu 10 []), .var 3 [.i .i64] :: []⟩) .n))) ⟨ol 125 :: .one (.fn 229 [0]) :: uu 5 (oi :: oi :: uu 10 []), .var 3 [.i .i64] :: []⟩) ⟨uu 19 [], .var 3 [.i .i64] :: []⟩)) .n))
    | _ => .n)
noncomputable def fi201 : FI := mkFI Tryz.f201 1 [.ag [.s, .i .i64, .s, .sl 125, .sl 9]] [(false, [.ct .b])] (fun _ => (.s (.r [0, 0] none) (.s (.r [] (some ⟨ou :: ou :: ob :: uu 10 [], .u :: []⟩)) .n)))
noncomputable def fi234 : FI := mkFI Tryz.f234 0 [.ct .s, .ct .s] [(false, [.ct .s])] (fun _ => .n)
noncomputable def fi235 : FI := mkFI Tryz.f235 0 [.ct .s] [(false, [.ct .b])] (fun _ => (.s .n (.s (.s .n (.b (.b (.s .n (.s .n (.s (.b .n ⟨os :: uu 4 (oi :: oi :: uu 10 []), []⟩) .n))) ⟨os :: uu 4 (oi :: oi :: uu 10 []), []⟩) ⟨os :: uu 16 [], []⟩)) .n)))
noncomputable def fi236 : FI := { mkFI Tryz.f236 0 [.ct .s, .ct .s] [(false, [.ct (.i .i64)])] (fun _ => .n) with prim := some (primH [.s, .s] [.i .i64] qIndexAny) }
noncomputable def fi237 : FI := mkFI Tryz.f237 0 [.ct .s, .ct .s] [(false, [.ct .s]), (false, [.ct .s]), (false, [.ct .b])] (fun _ => .n)
noncomputable def fi175 : FI := mkFI Tryz.f175 1 [.ag [.i .i64, .s, .sl 125, .sl 9]] [(false, [.ct .b])] (fun _ => (.s (.r [0, 0] none) .n))
noncomputable def fi238 : FI := mkFI Tryz.f238 0 [.ct .s, .ct .s] [(false, [.ct .s])] (fun _ => .n)
noncomputable def fi240 : FI := { mkFI Tryz.f240 0 [.ct .s, .ct .s] [(false, [.ct .s]), (false, [.ct .s]), (false, [.ct .b])] (fun _ => .n) with prim := some (primH [.s, .s] [.s, .s, .b] qCut) }
noncomputable def fi228 : FI := mkFI Tryz.f228 0 [.ct .s] [(false, [.ct .b])] (fun _ => .n)
noncomputable def fi229 : FI := mkFI Tryz.f229 2 [.ag [.i .i64, .s, .sl 125, .sl 9], .ptr] [(false, [.ct .b])] (fun _ => (.s (.r [1, 0] none) .n))
noncomputable def fi241 : FI := mkFI Tryz.f241 0 [.ct .s, .ct .s] [(false, [.ct .b])] (fun _ => (.s .n (.s (.r [] (some ⟨uu 4 (ob :: uu 13 []), []⟩)) .n)))
noncomputable def fnL : List (Nat × FI) := [(3, fi3), (4, fi4), (5, fi5), (7, fi7), (6, fi6), (8, fi8), (9, fi9), (10, fi10), (12, fi12), (11, fi11), (13, fi13), (14, fi14), (15, fi15), (16, fi16), (17, fi17), (18, fi18), (19, fi19), (20, fi20), (31, fi31), (32, fi32), (33, fi33), (34, fi34), (35, fi35), (36, fi36), (21, fi21), (22, fi22), (23, fi23), (24, fi24), (25, fi25), (26, fi26), (27, fi27), (28, fi28), (29, fi29), (30, fi30), (37, fi37), (38, fi38), (39, fi39), (40, fi40), (41, fi41), (42, fi42), (43, fi43), (46, fi46), (47, fi47), (48, fi48), (49, fi49), (50, fi50), (51, fi51), (52, fi52), (58, fi58), (53, fi53), (54, fi54), (55, fi55), (56, fi56), (57, fi57), (59, fi59), (62, fi62), (63, fi63), (64, fi64), (65, fi65), (66, fi66), (67, fi67), (76, fi76), (77, fi77), (78, fi78), (79, fi79), (80, fi80), (68, fi68), (69, fi69), (70, fi70), (71, fi71), (72, fi72), (73, fi73), (74, fi74), (75, fi75), (81, fi81), (82, fi82), (85, fi85), (86, fi86), (89, fi89), (93, fi93), (94, fi94), (95, fi95), (96, fi96), (97, fi97), (98, fi98), (99, fi99), (100, fi100), (101, fi101), (102, fi102), (105, fi105), (103, fi103), (104, fi104), (106, fi106), (112, fi112), (113, fi113), (114, fi114), (115, fi115), (121, fi121), (122, fi122), (123, fi123), (116, fi116), (117, fi117), (118, fi118), (119, fi119), (120, fi120), (124, fi124), (125, fi125), (126, fi126), (128, fi128), (131, fi131), (133, fi133), (135, fi135), (136, fi136), (141, fi141), (44, fi44), (142, fi142), (143, fi143), (144, fi144), (145, fi145), (146, fi146), (149, fi149), (150, fi150), (147, fi147), (148, fi148), (60, fi60), (155, fi155), (156, fi156), (157, fi157), (158, fi158), (162, fi162), (163, fi163), (159, fi159), (160, fi160), (161, fi161), (164, fi164), (165, fi165), (83, fi83), (168, fi168), (87, fi87), (90, fi90), (92, fi92), (172, fi172), (45, fi45), (176, fi176), (177, fi177), (178, fi178), (179, fi179), (181, fi181), (182, fi182), (180, fi180), (61, fi61), (185, fi185), (186, fi186), (187, fi187), (188, fi188), (84, fi84), (129, fi129), (88, fi88), (91, fi91), (137, fi137), (203, fi203), (204, fi204), (205, fi205), (206, fi206), (107, fi107), (108, fi108), (109, fi109), (110, fi110), (111, fi111), (207, fi207), (208, fi208), (209, fi209), (210, fi210), (127, fi127), (130, fi130), (132, fi132), (134, fi134), (170, fi170), (138, fi138), (151, fi151), (154, fi154), (218, fi218), (219, fi219), (166, fi166), (167, fi167), (169, fi169), (171, fi171), (173, fi173), (183, fi183), (184, fi184), (230, fi230), (231, fi231), (199, fi199), (200, fi200), (140, fi140), (139, fi139), (152, fi152), (216, fi216), (217, fi217), (174, fi174), (153, fi153), (226, fi226), (227, fi227), (202, fi202), (201, fi201), (234, fi234), (235, fi235), (236, fi236), (237, fi237), (175, fi175), (238, fi238), (240, fi240), (228, fi228), (229, fi229), (241, fi241)]
noncomputable def cfg : Cfg := ⟨fun t => look t tyL, fun f => look f fnL⟩
theorem tys : tyB Tryz.prog tyL = true := by kernel_rfl
theorem fns : ∀ x ∈ fnL, FnOk Tryz.prog G cfg.ty x.1 x.2 :=
  all_cons (mkFI_ok Tryz.func3 (by kernel_rfl)) <|
  all_cons (mkFI_ok Tryz.func4 (by kernel_rfl)) <|
  all_cons (mkFI_ok Tryz.func5 (by kernel_rfl)) <|
  all_cons (mkFI_ok Tryz.func7 (by kernel_rfl)) <|
  all_cons (mkFI_ok Tryz.func6 (by kernel_rfl)) <|
  all_cons (mkFI_ok Tryz.func8 (by kernel_rfl)) <|
  all_cons (mkFI_ok Tryz.func9 (by kernel_rfl)) <|
  all_cons (mkFI_ok Tryz.func10 (by kernel_rfl)) <|
  all_cons (mkFI_ok Tryz.func12 (by kernel_rfl)) <|
  all_cons (mkFI_ok Tryz.func11 (by kernel_rfl)) <|
  all_cons (mkFI_ok Tryz.func13 (by kernel_rfl)) <|
  all_cons (mkFI_ok Tryz.func14 (by kernel_rfl)) <|
  all_cons (mkFI_ok Tryz.func15 (by kernel_rfl)) <|
  all_cons (mkFI_ok Tryz.func16 (by kernel_rfl)) <|
  all_cons (mkFI_ok Tryz.func17 (by kernel_rfl)) <|
  all_cons (mkFI_ok Tryz.func18 (by kernel_rfl)) <|
  all_cons (mkFI_ok Tryz.func19 (by kernel_rfl)) <|
  all_cons (mkFI_ok Tryz.func20 (by kernel_rfl)) <|
  all_cons (mkFI_ok Tryz.func31 (by kernel_rfl)) <|
  all_cons (mkFI_ok Tryz.func32 (by kernel_rfl)) <|
  all_cons (mkFI_ok Tryz.func33 (by kernel_rfl)) <|
  all_cons (mkFI_ok Tryz.func34 (by kernel_rfl)) <|
  all_cons (mkFI_ok Tryz.func35 (by kernel_rfl)) <|
  all_cons (mkFI_ok Tryz.func36 (by kernel_rfl)) <|
  all_cons (mkFI_ok Tryz.func21 (by kernel_rfl)) <|
  all_cons (mkFI_ok Tryz.func22 (by kernel_rfl)) <|
  all_cons (mkFI_ok Tryz.func23 (by kernel_rfl)) <|
  all_cons (mkFI_ok Tryz.func24 (by kernel_rfl)) <|
  all_cons (mkFI_ok Tryz.func25 (by kernel_rfl)) <|
  all_cons (mkFI_ok Tryz.func26 (by kernel_rfl)) <|
  all_cons (mkFI_ok Tryz.func27 (by kernel_rfl)) <|
  all_cons (mkFI_ok Tryz.func28 (by kernel_rfl)) <|
  all_cons (mkFI_ok Tryz.func29 (by kernel_rfl)) <|
  all_cons (mkFI_ok Tryz.func30 (by kernel_rfl)) <|
  all_cons (mkFI_ok Tryz.func37 (by kernel_rfl)) <|
  all_cons (mkFI_ok Tryz.func38 (by kernel_rfl)) <|
  all_cons (mkFI_ok Tryz.func39 (by kernel_rfl)) <|
  all_cons (mkFI_ok Tryz.func40 (by kernel_rfl)) <|
  all_cons (mkFI_ok Tryz.func41 (by kernel_rfl)) <|
  all_cons (mkFI_ok Tryz.func42 (by kernel_rfl)) <|
  all_cons (mkFI_ok Tryz.func43 (by kernel_rfl)) <|
  all_cons (mkFI_ok Tryz.func46 (by kernel_rfl)) <|
  all_cons (mkFI_ok Tryz.func47 (by kernel_rfl)) <|
  all_cons (mkFI_ok Tryz.func48 (by kernel_rfl)) <|
  all_cons (mkFI_ok Tryz.func49 (by kernel_rfl)) <|
  all_cons (mkFI_ok Tryz.func50 (by kernel_rfl)) <|
  all_cons (mkFI_ok Tryz.func51 (by kernel_rfl)) <|
  all_cons (mkFI_ok Tryz.func52 (by kernel_rfl)) <|
  all_cons (mkFI_ok Tryz.func58 (by kernel_rfl)) <|
  all_cons (mkFI_ok Tryz.func53 (by kernel_rfl)) <|
  all_cons (mkFI_ok Tryz.func54 (by kernel_rfl)) <|
  all_cons (mkFI_ok Tryz.func55 (by kernel_rfl)) <|
  all_cons (mkFI_ok Tryz.func56 (by kernel_rfl)) <|
  all_cons (mkFI_ok Tryz.func57 (by kernel_rfl)) <|
  all_cons (mkFI_ok Tryz.func59 (by kernel_rfl)) <|
  all_cons (mkFI_ok Tryz.func62 (by kernel_rfl)) <|
  all_cons (mkFI_ok Tryz.func63 (by kernel_rfl)) <|
  all_cons (mkFI_ok Tryz.func64 (by kernel_rfl)) <|
  all_cons (mkFI_ok Tryz.func65 (by kernel_rfl)) <|
  all_cons (mkFI_ok Tryz.func66 (by kernel_rfl)) <|
  all_cons (mkFI_ok Tryz.func67 (by kernel_rfl)) <|
  all_cons (mkFI_ok Tryz.func76 (by kernel_rfl)) <|
  all_cons (mkFI_ok Tryz.func77 (by kernel_rfl)) <|
  all_cons (mkFI_ok Tryz.func78 (by kernel_rfl)) <|
  all_cons (mkFI_ok Tryz.func79 (by kernel_rfl)) <|
  all_cons (mkFI_ok Tryz.func80 (by kernel_rfl)) <|
  all_cons (mkFI_ok Tryz.func68 (by kernel_rfl)) <|
  all_cons (mkFI_ok Tryz.func69 (by kernel_rfl)) <|
  all_cons (mkFI_ok Tryz.func70 (by kernel_rfl)) <|
  all_cons (mkFI_ok Tryz.func71 (by kernel_rfl)) <|
  all_cons (mkFI_ok Tryz.func72 (by kernel_rfl)) <|
  all_cons (mkFI_ok Tryz.func73 (by kernel_rfl)) <|
  all_cons (mkFI_ok Tryz.func74 (by kernel_rfl)) <|
  all_cons (mkFI_ok Tryz.func75 (by kernel_rfl)) <|
  all_cons (mkFI_ok Tryz.func81 (by kernel_rfl)) <|
  all_cons (mkFI_ok Tryz.func82 (by kernel_rfl)) <|
  all_cons (mkFI_ok Tryz.func85 (by kernel_rfl)) <|
  all_cons (mkFI_ok Tryz.func86 (by kernel_rfl)) <|
  all_cons (mkFI_ok Tryz.func89 (by kernel_rfl)) <|
  all_cons (mkFI_ok Tryz.func93 (by kernel_rfl)) <|
  all_cons (mkFI_ok Tryz.func94 (by kernel_rfl)) <|
  all_cons (mkFI_ok Tryz.func95 (by kernel_rfl)) <|
  all_cons (mkFI_ok Tryz.func96 (by kernel_rfl)) <|
  all_cons (mkFI_ok Tryz.func97 (by kernel_rfl)) <|
  all_cons (mkFI_ok Tryz.func98 (by kernel_rfl)) <|
  all_cons (mkFI_ok Tryz.func99 (by kernel_rfl)) <|
  all_cons (mkFI_ok Tryz.func100 (by kernel_rfl)) <|
  all_cons (mkFI_ok Tryz.func101 (by kernel_rfl)) <|
  all_cons (mkFI_ok Tryz.func102 (by kernel_rfl)) <|
  all_cons (mkFI_ok Tryz.func105 (by kernel_rfl)) <|
  all_cons (mkFI_ok Tryz.func103 (by kernel_rfl)) <|
  all_cons (mkFI_ok Tryz.func104 (by kernel_rfl)) <|
  all_cons (mkFI_ok Tryz.func106 (by kernel_rfl)) <|
  all_cons (mkFI_ok Tryz.func112 (by kernel_rfl)) <|
  all_cons (mkFI_ok Tryz.func113 (by kernel_rfl)) <|
  all_cons (mkFI_ok Tryz.func114 (by kernel_rfl)) <|
  all_cons (mkFI_ok Tryz.func115 (by kernel_rfl)) <|
  all_cons (mkFI_ok Tryz.func121 (by kernel_rfl)) <|
  all_cons (mkFI_ok Tryz.func122 (by kernel_rfl)) <|
  all_cons (mkFI_ok Tryz.func123 (by kernel_rfl)) <|
  all_cons (mkFI_ok Tryz.func116 (by kernel_rfl)) <|
  all_cons (mkFI_ok Tryz.func117 (by kernel_rfl)) <|
  all_cons (mkFI_ok Tryz.func118 (by kernel_rfl)) <|
  all_cons (mkFI_ok Tryz.func119 (by kernel_rfl)) <|
  all_cons (mkFI_ok Tryz.func120 (by kernel_rfl)) <|
  all_cons (mkFI_ok Tryz.func124 (by kernel_rfl)) <|
  all_cons (mkFI_ok Tryz.func125 (by kernel_rfl)) <|
  all_cons (mkFI_ok Tryz.func126 (by kernel_rfl)) <|
  all_cons (mkFI_ok Tryz.func128 (by kernel_rfl)) <|
  all_cons (mkFI_ok Tryz.func131 (by kernel_rfl)) <|
  all_cons (mkFI_ok Tryz.func133 (by kernel_rfl)) <|
  all_cons (mkFI_ok Tryz.func135 (by kernel_rfl)) <|
  all_cons (mkFI_ok Tryz.func136 (by kernel_rfl)) <|
  all_cons (mkFI_ok Tryz.func141 (by kernel_rfl)) <|
  all_cons (mkFI_ok Tryz.func44 (by kernel_rfl)) <|
  all_cons (mkFI_ok Tryz.func142 (by kernel_rfl)) <|
  all_cons (mkFI_ok Tryz.func143 (by kernel_rfl)) <|
  all_cons (mkFI_ok Tryz.func144 (by kernel_rfl)) <|
  all_cons (mkFI_ok Tryz.func145 (by kernel_rfl)) <|
  all_cons (mkFI_ok Tryz.func146 (by kernel_rfl)) <|
  all_cons (mkFI_ok Tryz.func149 (by kernel_rfl)) <|
  all_cons (mkFI_ok Tryz.func150 (by kernel_rfl)) <|
  all_cons (mkFI_ok Tryz.func147 (by kernel_rfl)) <|
  all_cons (mkFI_ok Tryz.func148 (by kernel_rfl)) <|
  all_cons (mkFI_ok Tryz.func60 (by kernel_rfl)) <|
  all_cons (mkFI_ok Tryz.func155 (by kernel_rfl)) <|
  all_cons (mkFI_ok Tryz.func156 (by kernel_rfl)) <|
  all_cons (mkFI_ok Tryz.func157 (by kernel_rfl)) <|
  all_cons (mkFI_ok Tryz.func158 (by kernel_rfl)) <|
  all_cons (mkFI_ok Tryz.func162 (by kernel_rfl)) <|
  all_cons (mkFI_ok Tryz.func163 (by kernel_rfl)) <|
  all_cons (mkFI_ok Tryz.func159 (by kernel_rfl)) <|
  all_cons (mkFI_ok Tryz.func160 (by kernel_rfl)) <|
  all_cons (mkFI_ok Tryz.func161 (by kernel_rfl)) <|
  all_cons (prim_lit (cts := [.s]) (rcts := [.b]) Tryz.func164 (by kernel_rfl) (by kernel_rfl) (by kernel_rfl) rfl call_ValidString) <|
  all_cons (prim_lit (cts := [.s, .i .u8]) (rcts := [.i .i64]) Tryz.func165 (by kernel_rfl) (by kernel_rfl) (by kernel_rfl) rfl call_IndexByte) <|
  all_cons (mkFI_ok Tryz.func83 (by kernel_rfl)) <|
  all_cons (mkFI_ok Tryz.func168 (by kernel_rfl)) <|
  all_cons (mkFI_ok Tryz.func87 (by kernel_rfl)) <|
  all_cons (mkFI_ok Tryz.func90 (by kernel_rfl)) <|
  all_cons (mkFI_ok Tryz.func92 (by kernel_rfl)) <|
  all_cons (mkFI_ok Tryz.func172 (by kernel_rfl)) <|
  all_cons (mkFI_ok Tryz.func45 (by kernel_rfl)) <|
  all_cons (mkFI_ok Tryz.func176 (by kernel_rfl)) <|
  all_cons (mkFI_ok Tryz.func177 (by kernel_rfl)) <|
  all_cons (mkFI_ok Tryz.func178 (by kernel_rfl)) <|
  all_cons (mkFI_ok Tryz.func179 (by kernel_rfl)) <|
  all_cons (mkFI_ok Tryz.func181 (by kernel_rfl)) <|
  all_cons (mkFI_ok Tryz.func182 (by kernel_rfl)) <|
  all_cons (mkFI_ok Tryz.func180 (by kernel_rfl)) <|
  all_cons (mkFI_ok Tryz.func61 (by kernel_rfl)) <|
  all_cons (mkFI_ok Tryz.func185 (by kernel_rfl)) <|
  all_cons (mkFI_ok Tryz.func186 (by kernel_rfl)) <|
  all_cons (mkFI_ok Tryz.func187 (by kernel_rfl)) <|
  all_cons (mkFI_ok Tryz.func188 (by kernel_rfl)) <|
  all_cons (mkFI_ok Tryz.func84 (by kernel_rfl)) <|
  all_cons (mkFI_ok Tryz.func129 (by kernel_rfl)) <|
  all_cons (mkFI_ok Tryz.func88 (by kernel_rfl)) <|
  all_cons (mkFI_ok Tryz.func91 (by kernel_rfl)) <|
  all_cons (mkFI_ok Tryz.func137 (by kernel_rfl)) <|
  all_cons (mkFI_ok Tryz.func203 (by kernel_rfl)) <|
  all_cons (mkFI_ok Tryz.func204 (by kernel_rfl)) <|
  all_cons (mkFI_ok Tryz.func205 (by kernel_rfl)) <|
  all_cons (mkFI_ok Tryz.func206 (by kernel_rfl)) <|
  all_cons (mkFI_ok Tryz.func107 (by kernel_rfl)) <|
  all_cons (mkFI_ok Tryz.func108 (by kernel_rfl)) <|
  all_cons (mkFI_ok Tryz.func109 (by kernel_rfl)) <|
  all_cons (mkFI_ok Tryz.func110 (by kernel_rfl)) <|
  all_cons (mkFI_ok Tryz.func111 (by kernel_rfl)) <|
  all_cons (mkFI_ok Tryz.func207 (by kernel_rfl)) <|
  all_cons (mkFI_ok Tryz.func208 (by kernel_rfl)) <|
  all_cons (mkFI_ok Tryz.func209 (by kernel_rfl)) <|
  all_cons (mkFI_ok Tryz.func210 (by kernel_rfl)) <|
  all_cons (mkFI_ok Tryz.func127 (by kernel_rfl)) <|
  all_cons (mkFI_ok Tryz.func130 (by kernel_rfl)) <|
  all_cons (mkFI_ok Tryz.func132 (by kernel_rfl)) <|
  all_cons (mkFI_ok Tryz.func134 (by kernel_rfl)) <|
  all_cons (mkFI_ok Tryz.func170 (by kernel_rfl)) <|
  all_cons (mkFI_ok Tryz.func138 (by kernel_rfl)) <|
  all_cons (mkFI_ok Tryz.func151 (by kernel_rfl)) <|
  all_cons (mkFI_ok Tryz.func154 (by kernel_rfl)) <|
  all_cons (mkFI_ok Tryz.func218 (by kernel_rfl)) <|
  all_cons (mkFI_ok Tryz.func219 (by kernel_rfl)) <|
  all_cons (prim_lit (cts := [.s, .s]) (rcts := [.s]) Tryz.func166 (by kernel_rfl) (by kernel_rfl) (by kernel_rfl) rfl call_Trim) <|
  all_cons (prim_lit (cts := [.s, .s]) (rcts := [.b]) Tryz.func167 (by kernel_rfl) (by kernel_rfl) (by kernel_rfl) rfl call_Contains) <|
  all_cons (mkFI_ok Tryz.func169 (by kernel_rfl)) <|
  all_cons (mkFI_ok Tryz.func171 (by kernel_rfl)) <|
  all_cons (mkFI_ok Tryz.func173 (by kernel_rfl)) <|
  all_cons (mkFI_ok Tryz.func183 (by kernel_rfl)) <|
  all_cons (mkFI_ok Tryz.func184 (by kernel_rfl)) <|
  all_cons (mkFI_ok Tryz.func230 (by kernel_rfl)) <|
  all_cons (mkFI_ok Tryz.func231 (by kernel_rfl)) <|
  all_cons (mkFI_ok Tryz.func199 (by kernel_rfl)) <|
  all_cons (mkFI_ok Tryz.func200 (by kernel_rfl)) <|
  all_cons (mkFI_ok Tryz.func140 (by kernel_rfl)) <|
  all_cons (mkFI_ok Tryz.func139 (by kernel_rfl)) <|
  all_cons (mkFI_ok Tryz.func152 (by kernel_rfl)) <|
  all_cons (mkFI_ok Tryz.func216 (by kernel_rfl)) <|
  all_cons (mkFI_ok Tryz.func217 (by kernel_rfl)) <|
  all_cons (mkFI_ok Tryz.func174 (by kernel_rfl)) <|
  all_cons (mkFI_ok Tryz.func153 (by kernel_rfl)) <|
  all_cons (mkFI_ok Tryz.func226 (by kernel_rfl)) <|
  all_cons (mkFI_ok Tryz.func227 (by kernel_rfl)) <|
  all_cons (mkFI_ok Tryz.func202 (by kernel_rfl)) <|
  all_cons (mkFI_ok Tryz.func201 (by kernel_rfl)) <|
  all_cons (mkFI_ok Tryz.func234 (by kernel_rfl)) <|
  all_cons (mkFI_ok Tryz.func235 (by kernel_rfl)) <|
  all_cons (prim_lit (cts := [.s, .s]) (rcts := [.i .i64]) Tryz.func236 (by kernel_rfl) (by kernel_rfl) (by kernel_rfl) rfl call_IndexAny) <|
  all_cons (mkFI_ok Tryz.func237 (by kernel_rfl)) <|
  all_cons (mkFI_ok Tryz.func175 (by kernel_rfl)) <|
  all_cons (mkFI_ok Tryz.func238 (by kernel_rfl)) <|
  all_cons (prim_lit (cts := [.s, .s]) (rcts := [.s, .s, .b]) Tryz.func240 (by kernel_rfl) (by kernel_rfl) (by kernel_rfl) rfl call_Cut) <|
  all_cons (mkFI_ok Tryz.func228 (by kernel_rfl)) <|
  all_cons (mkFI_ok Tryz.func229 (by kernel_rfl)) <|
  all_cons (mkFI_ok Tryz.func241 (by kernel_rfl)) <| all_nil
noncomputable def r_laws_FnExactDocOk (a : List DC) : Out := Run cfg 4 ⟨.agg [.sl 159] :: [], []⟩ a
noncomputable def r_laws_szDef (a : List DC) : Out := Run cfg 5 ⟨.agg [.i .i64, .b, .s, .s, .sl 9, .sl 104, .sl 110, .sl 113, .sl 115, .b, .sl 119] :: oi :: [], []⟩ a
noncomputable def r_laws_toDef (a : List DC) : Out := Run cfg 7 ⟨.agg [.i .i64, .b, .s, .s, .sl 9, .sl 104, .sl 110, .sl 113, .sl 115, .b, .sl 119] :: [], []⟩ a
noncomputable def r_spec_DefOk (a : List DC) : Out := Run cfg 6 ⟨.agg [.i .i64, .b, .s, .s, .sl 9, .sl 67, .sl 127, .sl 69, .sl 72, .b, .sl 130] :: [], []⟩ a
noncomputable def r_impl_DefOk (a : List DC) : Out := Run cfg 8 ⟨.agg [.i .i64, .b, .s, .s, .sl 9, .sl 67, .sl 127, .sl 69, .sl 72, .b, .sl 130] :: [], []⟩ a
noncomputable def r_laws_eqDef (a : List DC) : Out := Run cfg 9 ⟨.agg [.i .i64, .b, .s, .s, .sl 9, .sl 67, .sl 127, .sl 69, .sl 72, .b, .sl 130] :: .agg [.i .i64, .b, .s, .s, .sl 9, .sl 67, .sl 127, .sl 69, .sl 72, .b, .sl 130] :: [], []⟩ a
noncomputable def r_laws_szDoc (a : List DC) : Out := Run cfg 10 ⟨.agg [.sl 159] :: oi :: [], []⟩ a
noncomputable def r_laws_toDoc (a : List DC) : Out := Run cfg 12 ⟨.agg [.sl 159] :: [], []⟩ a
noncomputable def r_spec_DocOk (a : List DC) : Out := Run cfg 11 ⟨.agg [.sl 94] :: [], []⟩ a
noncomputable def r_impl_DocOk (a : List DC) : Out := Run cfg 13 ⟨.agg [.sl 94] :: [], []⟩ a
noncomputable def r_laws_eqDoc (a : List DC) : Out := Run cfg 14 ⟨.agg [.sl 94] :: .agg [.sl 94] :: [], []⟩ a
noncomputable def r_laws_szStringS (a : List DC) : Out := Run cfg 15 ⟨ol 9 :: oi :: [], []⟩ a
noncomputable def r_laws_szFieldDefS (a : List DC) : Out := Run cfg 16 ⟨ol 104 :: oi :: [], []⟩ a
noncomputable def r_laws_szInDefS (a : List DC) : Out := Run cfg 17 ⟨ol 110 :: oi :: [], []⟩ a
noncomputable def r_laws_szEnumDefS (a : List DC) : Out := Run cfg 18 ⟨ol 113 :: oi :: [], []⟩ a
noncomputable def r_laws_szRootS (a : List DC) : Out := Run cfg 19 ⟨ol 115 :: oi :: [], []⟩ a
noncomputable def r_laws_szDirS (a : List DC) : Out := Run cfg 20 ⟨ol 119 :: oi :: [], []⟩ a
noncomputable def r_laws_toStringS (a : List DC) : Out := Run cfg 31 ⟨ol 9 :: [], []⟩ a
noncomputable def r_laws_toFieldDefS (a : List DC) : Out := Run cfg 32 ⟨ol 104 :: [], []⟩ a
noncomputable def r_laws_toInDefS (a : List DC) : Out := Run cfg 33 ⟨ol 110 :: [], []⟩ a
noncomputable def r_laws_toEnumDefS (a : List DC) : Out := Run cfg 34 ⟨ol 113 :: [], []⟩ a
noncomputable def r_laws_toRootS (a : List DC) : Out := Run cfg 35 ⟨ol 115 :: [], []⟩ a
noncomputable def r_laws_toDirS (a : List DC) : Out := Run cfg 36 ⟨ol 119 :: [], []⟩ a
noncomputable def r_spec_l01In (a : List DC) : Out := Run cfg 21 ⟨oi :: oi :: oi :: [], []⟩ a
noncomputable def r_spec_l13Desc (a : List DC) : Out := Run cfg 22 ⟨os :: [], []⟩ a
noncomputable def r_spec_l13Has (a : List DC) : Out := Run cfg 23 ⟨.agg [.i .i64, .b, .s, .s, .sl 9, .sl 67, .sl 127, .sl 69, .sl 72, .b, .sl 130] :: [], []⟩ a
noncomputable def r_spec_l13May (a : List DC) : Out := Run cfg 24 ⟨.agg [.i .i64, .b, .s, .s, .sl 9, .sl 67, .sl 127, .sl 69, .sl 72, .b, .sl 130] :: [], []⟩ a
noncomputable def r_spec_NameOk (a : List DC) : Out := Run cfg 25 ⟨os :: [], []⟩ a
noncomputable def r_spec_l13Ins (a : List DC) : Out := Run cfg 26 ⟨ol 127 :: [], []⟩ a
noncomputable def r_spec_l12Consts (a : List DC) : Out := Run cfg 27 ⟨ol 130 :: [], []⟩ a
noncomputable def r_spec_l13Field (a : List DC) : Out := Run cfg 28 ⟨.agg [.s, .s, .sl 127, .s, .s, .sl 130] :: [], []⟩ a
noncomputable def r_spec_Word (a : List DC) : Out := Run cfg 29 ⟨os :: [], []⟩ a
noncomputable def r_spec_OpWord (a : List DC) : Out := Run cfg 30 ⟨oi :: [], []⟩ a
noncomputable def r_impl_in (a : List DC) : Out := Run cfg 37 ⟨oi :: oi :: oi :: [], []⟩ a
noncomputable def r_impl_descOk (a : List DC) : Out := Run cfg 38 ⟨os :: [], []⟩ a
noncomputable def r_impl_something (a : List DC) : Out := Run cfg 39 ⟨.agg [.i .i64, .b, .s, .s, .sl 9, .sl 67, .sl 127, .sl 69, .sl 72, .b, .sl 130] :: [], []⟩ a
noncomputable def r_impl_partsOk (a : List DC) : Out := Run cfg 40 ⟨.agg [.i .i64, .b, .s, .s, .sl 9, .sl 67, .sl 127, .sl 69, .sl 72, .b, .sl 130] :: [], []⟩ a
noncomputable def r_impl_belongs (a : List DC) : Out := Run cfg 41 ⟨.agg [.i .i64, .b, .s, .s, .sl 9, .sl 67, .sl 127, .sl 69, .sl 72, .b, .sl 130] :: [], []⟩ a
noncomputable def r_impl_NameOk (a : List DC) : Out := Run cfg 42 ⟨os :: [], []⟩ a
noncomputable def r_slices_ContainsFunc_string__impl_DefOk_1 (a : List DC) : Out := Run cfg 43 ⟨ol 9 :: .one (.fn 44 []) :: [], []⟩ a
noncomputable def r_laws_eqStringS (a : List DC) : Out := Run cfg 46 ⟨ol 9 :: ol 9 :: [], []⟩ a
noncomputable def r_laws_eqFieldDefS (a : List DC) : Out := Run cfg 47 ⟨ol 67 :: ol 67 :: [], []⟩ a
noncomputable def r_laws_eqInDefS (a : List DC) : Out := Run cfg 48 ⟨ol 127 :: ol 127 :: [], []⟩ a
noncomputable def r_laws_eqEnumDefS (a : List DC) : Out := Run cfg 49 ⟨ol 69 :: ol 69 :: [], []⟩ a
noncomputable def r_laws_eqRootS (a : List DC) : Out := Run cfg 50 ⟨ol 72 :: ol 72 :: [], []⟩ a
noncomputable def r_laws_eqDirS (a : List DC) : Out := Run cfg 51 ⟨ol 130 :: ol 130 :: [], []⟩ a
noncomputable def r_laws_szItemS (a : List DC) : Out := Run cfg 52 ⟨ol 159 :: oi :: [], []⟩ a
noncomputable def r_laws_toItemS (a : List DC) : Out := Run cfg 58 ⟨ol 159 :: [], []⟩ a
noncomputable def r_spec_OpOk (a : List DC) : Out := Run cfg 53 ⟨.agg [.i .i64, .s, .sl 162, .sl 130, .sl 193] :: [], []⟩ a
noncomputable def r_spec_l14NoFrag (a : List DC) : Out := Run cfg 54 ⟨.agg [.s, .s, .sl 130, .sl 193] :: [], []⟩ a
noncomputable def r_spec_l14NoDef (a : List DC) : Out := Run cfg 55 ⟨.agg [.i .i64, .b, .s, .s, .sl 9, .sl 67, .sl 127, .sl 69, .sl 72, .b, .sl 130] :: [], []⟩ a
noncomputable def r_spec_FragOk (a : List DC) : Out := Run cfg 56 ⟨.agg [.s, .s, .sl 130, .sl 193] :: [], []⟩ a
noncomputable def r_spec_l14NoOp (a : List DC) : Out := Run cfg 57 ⟨.agg [.i .i64, .s, .sl 162, .sl 130, .sl 193] :: [], []⟩ a
noncomputable def r_slices_ContainsFunc_impl_Item__impl_DocOk_1 (a : List DC) : Out := Run cfg 59 ⟨ol 94 :: .one (.fn 60 []) :: [], []⟩ a
noncomputable def r_laws_eqItemS (a : List DC) : Out := Run cfg 62 ⟨ol 94 :: ol 94 :: [], []⟩ a
noncomputable def r_laws_szFieldDef (a : List DC) : Out := Run cfg 63 ⟨.agg [.s, .s, .sl 110, .s, .s, .sl 119] :: oi :: [], []⟩ a
noncomputable def r_laws_szInDef (a : List DC) : Out := Run cfg 64 ⟨.agg [.s, .s, .s, .s, .b, .i .i64, .s, .sl 108, .sl 9, .sl 119] :: oi :: [], []⟩ a
noncomputable def r_laws_szEnumDef (a : List DC) : Out := Run cfg 65 ⟨.agg [.s, .s, .sl 119] :: oi :: [], []⟩ a
noncomputable def r_laws_szRoot (a : List DC) : Out := Run cfg 66 ⟨.agg [.i .i64, .s] :: oi :: [], []⟩ a
noncomputable def r_laws_szDir (a : List DC) : Out := Run cfg 67 ⟨.agg [.s, .sl 203] :: oi :: [], []⟩ a
noncomputable def r_laws_toFieldDef (a : List DC) : Out := Run cfg 76 ⟨.agg [.s, .s, .sl 110, .s, .s, .sl 119] :: [], []⟩ a
noncomputable def r_laws_toInDef (a : List DC) : Out := Run cfg 77 ⟨.agg [.s, .s, .s, .s, .b, .i .i64, .s, .sl 108, .sl 9, .sl 119] :: [], []⟩ a
noncomputable def r_laws_toEnumDef (a : List DC) : Out := Run cfg 78 ⟨.agg [.s, .s, .sl 119] :: [], []⟩ a
noncomputable def r_laws_toRoot (a : List DC) : Out := Run cfg 79 ⟨.agg [.i .i64, .s] :: [], []⟩ a
noncomputable def r_laws_toDir (a : List DC) : Out := Run cfg 80 ⟨.agg [.s, .sl 203] :: [], []⟩ a
noncomputable def r_spec_Escaped (a : List DC) : Out := Run cfg 68 ⟨os :: [], []⟩ a
noncomputable def r_spec_PlaceOk (a : List DC) : Out := Run cfg 69 ⟨os :: [], []⟩ a
noncomputable def r_spec_l03Figure (a : List DC) : Out := Run cfg 70 ⟨.one (.i .u8) :: [], []⟩ a
noncomputable def r_spec_l03Letter (a : List DC) : Out := Run cfg 71 ⟨.one (.i .u8) :: [], []⟩ a
noncomputable def r_spec_l13In (a : List DC) : Out := Run cfg 72 ⟨.agg [.s, .s, .s, .s, .b, .i .i64, .s, .sl 125, .sl 9, .sl 130] :: [], []⟩ a
noncomputable def r_spec_IsConst (a : List DC) : Out := Run cfg 73 ⟨.agg [.i .i64, .s, .sl 125, .sl 9] :: [], []⟩ a
noncomputable def r_spec_DirsOk (a : List DC) : Out := Run cfg 74 ⟨ol 130 :: [], []⟩ a
noncomputable def r_spec_TypeOk (a : List DC) : Out := Run cfg 75 ⟨.agg [.s, .s] :: [], []⟩ a
noncomputable def r_impl_Escaped (a : List DC) : Out := Run cfg 81 ⟨os :: [], []⟩ a
noncomputable def r_slices_ContainsFunc_impl_FieldDef__impl_partsOk_1 (a : List DC) : Out := Run cfg 82 ⟨ol 67 :: .one (.fn 83 []) :: [], []⟩ a
noncomputable def r_impl_insOk (a : List DC) : Out := Run cfg 85 ⟨ol 127 :: [], []⟩ a
noncomputable def r_slices_ContainsFunc_impl_EnumDef__impl_partsOk_2 (a : List DC) : Out := Run cfg 86 ⟨ol 69 :: .one (.fn 87 []) :: [], []⟩ a
noncomputable def r_slices_ContainsFunc_impl_Root__impl_partsOk_3 (a : List DC) : Out := Run cfg 89 ⟨ol 72 :: .one (.fn 90 []) :: [], []⟩ a
noncomputable def r_slices_ContainsFunc_string__impl_partsOk_4 (a : List DC) : Out := Run cfg 43 ⟨ol 9 :: .one (.fn 92 []) :: [], []⟩ a
noncomputable def r_impl_constDirs (a : List DC) : Out := Run cfg 93 ⟨ol 130 :: [], []⟩ a
noncomputable def r_impl_isFigure (a : List DC) : Out := Run cfg 94 ⟨.one (.i .u8) :: [], []⟩ a
noncomputable def r_impl_inName (a : List DC) : Out := Run cfg 95 ⟨.one (.i .u8) :: [], []⟩ a
noncomputable def r_slices_IndexFunc_string__impl_DefOk_1 (a : List DC) : Out := Run cfg 96 ⟨ol 9 :: .one (.fn 44 []) :: [], []⟩ a
noncomputable def r_laws_eqFieldDef (a : List DC) : Out := Run cfg 97 ⟨.agg [.s, .s, .sl 127, .s, .s, .sl 130] :: .agg [.s, .s, .sl 127, .s, .s, .sl 130] :: [], []⟩ a
noncomputable def r_laws_eqInDef (a : List DC) : Out := Run cfg 98 ⟨.agg [.s, .s, .s, .s, .b, .i .i64, .s, .sl 125, .sl 9, .sl 130] :: .agg [.s, .s, .s, .s, .b, .i .i64, .s, .sl 125, .sl 9, .sl 130] :: [], []⟩ a
noncomputable def r_laws_eqEnumDef (a : List DC) : Out := Run cfg 99 ⟨.agg [.s, .s, .sl 130] :: .agg [.s, .s, .sl 130] :: [], []⟩ a
noncomputable def r_laws_eqRoot (a : List DC) : Out := Run cfg 100 ⟨.agg [.i .i64, .s] :: .agg [.i .i64, .s] :: [], []⟩ a
noncomputable def r_laws_eqDir (a : List DC) : Out := Run cfg 101 ⟨.agg [.s, .sl 133] :: .agg [.s, .sl 133] :: [], []⟩ a
noncomputable def r_laws_szItem (a : List DC) : Out := Run cfg 102 ⟨.agg [.i .i64, .i .i64, .s, .sl 244, .sl 119, .sl 247, .s, .s, .sl 119, .sl 247, .i .i64, .b, .s, .s, .sl 9, .sl 104, .sl 110, .sl 113, .sl 115, .b, .sl 119] :: oi :: [], []⟩ a
noncomputable def r_laws_toItem (a : List DC) : Out := Run cfg 105 ⟨.agg [.i .i64, .i .i64, .s, .sl 244, .sl 119, .sl 247, .s, .s, .sl 119, .sl 247, .i .i64, .b, .s, .s, .sl 9, .sl 104, .sl 110, .sl 113, .sl 115, .b, .sl 119] :: [], []⟩ a
noncomputable def r_spec_VarDefOk (a : List DC) : Out := Run cfg 103 ⟨.agg [.s, .s, .s, .b, .i .i64, .s, .sl 125, .sl 9, .sl 130] :: [], []⟩ a
noncomputable def r_spec_l11Ok (a : List DC) : Out := Run cfg 104 ⟨ol 193 :: [], []⟩ a
noncomputable def r_slices_IndexFunc_impl_Item__impl_DocOk_1 (a : List DC) : Out := Run cfg 106 ⟨ol 94 :: .one (.fn 60 []) :: [], []⟩ a
noncomputable def r_laws_eqItem (a : List DC) : Out := Run cfg 112 ⟨.agg [.i .i64, .i .i64, .s, .sl 162, .sl 130, .sl 193, .s, .s, .sl 130, .sl 193, .i .i64, .b, .s, .s, .sl 9, .sl 67, .sl 127, .sl 69, .sl 72, .b, .sl 130] :: .agg [.i .i64, .i .i64, .s, .sl 162, .sl 130, .sl 193, .s, .s, .sl 130, .sl 193, .i .i64, .b, .s, .s, .sl 9, .sl 67, .sl 127, .sl 69, .sl 72, .b, .sl 130] :: [], []⟩ a
noncomputable def r_laws_szType (a : List DC) : Out := Run cfg 113 ⟨.agg [.s, .s] :: oi :: [], []⟩ a
noncomputable def r_laws_szValue (a : List DC) : Out := Run cfg 114 ⟨.agg [.i .i64, .s, .sl 108, .sl 9] :: oi :: [], []⟩ a
noncomputable def r_laws_szArgS (a : List DC) : Out := Run cfg 115 ⟨ol 203 :: oi :: [], []⟩ a
noncomputable def r_laws_toType (a : List DC) : Out := Run cfg 121 ⟨.agg [.s, .s] :: [], []⟩ a
noncomputable def r_laws_toValue (a : List DC) : Out := Run cfg 122 ⟨.agg [.i .i64, .s, .sl 108, .sl 9] :: [], []⟩ a
noncomputable def r_laws_toArgS (a : List DC) : Out := Run cfg 123 ⟨ol 203 :: [], []⟩ a
noncomputable def r_spec_TextOk (a : List DC) : Out := Run cfg 116 ⟨os :: [], []⟩ a
noncomputable def r_spec_l04Hex4 (a : List DC) : Out := Run cfg 117 ⟨oi :: [], []⟩ a
noncomputable def r_spec_l12Default (a : List DC) : Out := Run cfg 118 ⟨ob :: .agg [.i .i64, .s, .sl 125, .sl 9] :: [], []⟩ a
noncomputable def r_spec_l07Const (a : List DC) : Out := Run cfg 119 ⟨.agg [.i .i64, .s, .sl 125, .sl 9] :: [], []⟩ a
noncomputable def r_spec_ArgsOk (a : List DC) : Out := Run cfg 120 ⟨ol 133 :: [], []⟩ a
noncomputable def r_impl_TextOk (a : List DC) : Out := Run cfg 124 ⟨os :: [], []⟩ a
noncomputable def r_strings_IndexByte (a : List DC) : Out := Run cfg 125 ⟨os :: .one (.i .u8) :: [], []⟩ a
noncomputable def r_slices_IndexFunc_impl_FieldDef__impl_partsOk_1 (a : List DC) : Out := Run cfg 126 ⟨ol 67 :: .one (.fn 83 []) :: [], []⟩ a
noncomputable def r_slices_ContainsFunc_impl_InDef__impl_insOk_1 (a : List DC) : Out := Run cfg 128 ⟨ol 127 :: .one (.fn 129 []) :: [], []⟩ a
noncomputable def r_slices_IndexFunc_impl_EnumDef__impl_partsOk_2 (a : List DC) : Out := Run cfg 131 ⟨ol 69 :: .one (.fn 87 []) :: [], []⟩ a
noncomputable def r_slices_IndexFunc_impl_Root__impl_partsOk_3 (a : List DC) : Out := Run cfg 133 ⟨ol 72 :: .one (.fn 90 []) :: [], []⟩ a
noncomputable def r_slices_IndexFunc_string__impl_partsOk_4 (a : List DC) : Out := Run cfg 96 ⟨ol 9 :: .one (.fn 92 []) :: [], []⟩ a
noncomputable def r_impl_DirsOk (a : List DC) : Out := Run cfg 135 ⟨ol 130 :: [], []⟩ a
noncomputable def r_slices_ContainsFunc_impl_Dir__impl_constDirs_1 (a : List DC) : Out := Run cfg 136 ⟨ol 130 :: .one (.fn 137 []) :: [], []⟩ a
noncomputable def r_impl_isLetter (a : List DC) : Out := Run cfg 141 ⟨.one (.i .u8) :: [], []⟩ a
noncomputable def r_impl_DefOk_1 (a : List DC) : Out := Run cfg 44 ⟨os :: [], []⟩ a
noncomputable def r_laws_eqType (a : List DC) : Out := Run cfg 142 ⟨.agg [.s, .s] :: .agg [.s, .s] :: [], []⟩ a
noncomputable def r_laws_eqValue (a : List DC) : Out := Run cfg 143 ⟨.agg [.i .i64, .s, .sl 125, .sl 9] :: .agg [.i .i64, .s, .sl 125, .sl 9] :: [], []⟩ a
noncomputable def r_laws_eqArgS (a : List DC) : Out := Run cfg 144 ⟨ol 133 :: ol 133 :: [], []⟩ a
noncomputable def r_laws_szOp (a : List DC) : Out := Run cfg 145 ⟨.agg [.i .i64, .s, .sl 244, .sl 119, .sl 247] :: oi :: [], []⟩ a
noncomputable def r_laws_szFrag (a : List DC) : Out := Run cfg 146 ⟨.agg [.s, .s, .sl 119, .sl 247] :: oi :: [], []⟩ a
noncomputable def r_laws_toOp (a : List DC) : Out := Run cfg 149 ⟨.agg [.i .i64, .s, .sl 244, .sl 119, .sl 247] :: [], []⟩ a
noncomputable def r_laws_toFrag (a : List DC) : Out := Run cfg 150 ⟨.agg [.s, .s, .sl 119, .sl 247] :: [], []⟩ a
noncomputable def r_spec_l11Count (a : List DC) : Out := Run cfg 147 ⟨.agg [.i .i64, .s, .s, .s, .sl 133, .sl 130, .sl 193] :: oi :: [], []⟩ a
noncomputable def r_spec_l11Right (a : List DC) : Out := Run cfg 148 ⟨.agg [.i .i64, .s, .s, .s, .sl 133, .sl 130, .sl 193] :: oi :: [], []⟩ a
noncomputable def r_impl_DocOk_1 (a : List DC) : Out := Run cfg 60 ⟨.agg [.i .i64, .i .i64, .s, .sl 162, .sl 130, .sl 193, .s, .s, .sl 130, .sl 193, .i .i64, .b, .s, .s, .sl 9, .sl 67, .sl 127, .sl 69, .sl 72, .b, .sl 130] :: [], []⟩ a
noncomputable def r_laws_eqOp (a : List DC) : Out := Run cfg 155 ⟨.agg [.i .i64, .s, .sl 162, .sl 130, .sl 193] :: .agg [.i .i64, .s, .sl 162, .sl 130, .sl 193] :: [], []⟩ a
noncomputable def r_laws_eqFrag (a : List DC) : Out := Run cfg 156 ⟨.agg [.s, .s, .sl 130, .sl 193] :: .agg [.s, .s, .sl 130, .sl 193] :: [], []⟩ a
noncomputable def r_laws_szValueS (a : List DC) : Out := Run cfg 157 ⟨ol 108 :: oi :: [], []⟩ a
noncomputable def r_laws_szArg (a : List DC) : Out := Run cfg 158 ⟨.agg [.s, .i .i64, .s, .sl 108, .sl 9] :: oi :: [], []⟩ a
noncomputable def r_laws_toValueS (a : List DC) : Out := Run cfg 162 ⟨ol 108 :: [], []⟩ a
noncomputable def r_laws_toArg (a : List DC) : Out := Run cfg 163 ⟨.agg [.s, .i .i64, .s, .sl 108, .sl 9] :: [], []⟩ a
noncomputable def r_spec_RuneAt (a : List DC) : Out := Run cfg 159 ⟨os :: oi :: [], []⟩ a
noncomputable def r_spec_ValueOk (a : List DC) : Out := Run cfg 160 ⟨.agg [.i .i64, .s, .sl 125, .sl 9] :: [], []⟩ a
noncomputable def r_spec_SameValue (a : List DC) : Out := Run cfg 161 ⟨.agg [.i .i64, .s, .sl 125, .sl 9] :: .agg [.i .i64, .s, .sl 125, .sl 9] :: [], []⟩ a
noncomputable def r_unicode_utf8_ValidString (a : List DC) : Out := Run cfg 164 h_unicode_utf8_ValidString a
noncomputable def r_internal_stringslite_IndexByte (a : List DC) : Out := Run cfg 165 h_internal_stringslite_IndexByte a
noncomputable def r_impl_partsOk_1 (a : List DC) : Out := Run cfg 83 ⟨.agg [.s, .s, .sl 127, .s, .s, .sl 130] :: [], []⟩ a
noncomputable def r_slices_IndexFunc_impl_InDef__impl_insOk_1 (a : List DC) : Out := Run cfg 168 ⟨ol 127 :: .one (.fn 129 []) :: [], []⟩ a
noncomputable def r_impl_partsOk_2 (a : List DC) : Out := Run cfg 87 ⟨.agg [.s, .s, .sl 130] :: [], []⟩ a
noncomputable def r_impl_partsOk_3 (a : List DC) : Out := Run cfg 90 ⟨.agg [.i .i64, .s] :: [], []⟩ a
noncomputable def r_impl_partsOk_4 (a : List DC) : Out := Run cfg 92 ⟨os :: [], []⟩ a
noncomputable def r_slices_ContainsFunc_impl_Dir__impl_DirsOk_1 (a : List DC) : Out := Run cfg 136 ⟨ol 130 :: .one (.fn 170 []) :: [], []⟩ a
noncomputable def r_slices_IndexFunc_impl_Dir__impl_constDirs_1 (a : List DC) : Out := Run cfg 172 ⟨ol 130 :: .one (.fn 137 []) :: [], []⟩ a
noncomputable def r_impl_PlaceOk (a : List DC) : Out := Run cfg 45 ⟨os :: [], []⟩ a
noncomputable def r_laws_eqValueS (a : List DC) : Out := Run cfg 176 ⟨ol 125 :: ol 125 :: [], []⟩ a
noncomputable def r_laws_eqArg (a : List DC) : Out := Run cfg 177 ⟨.agg [.s, .i .i64, .s, .sl 125, .sl 9] :: .agg [.s, .i .i64, .s, .sl 125, .sl 9] :: [], []⟩ a
noncomputable def r_laws_szVarDefS (a : List DC) : Out := Run cfg 178 ⟨ol 244 :: oi :: [], []⟩ a
noncomputable def r_laws_szSelS (a : List DC) : Out := Run cfg 179 ⟨ol 247 :: oi :: [], []⟩ a
noncomputable def r_laws_toVarDefS (a : List DC) : Out := Run cfg 181 ⟨ol 244 :: [], []⟩ a
noncomputable def r_laws_toSelS (a : List DC) : Out := Run cfg 182 ⟨ol 247 :: [], []⟩ a
noncomputable def r_spec_l11Names (a : List DC) : Out := Run cfg 180 ⟨.agg [.i .i64, .s, .s, .s, .sl 133, .sl 130, .sl 193] :: [], []⟩ a
noncomputable def r_impl_itemOk (a : List DC) : Out := Run cfg 61 ⟨.agg [.i .i64, .i .i64, .s, .sl 162, .sl 130, .sl 193, .s, .s, .sl 130, .sl 193, .i .i64, .b, .s, .s, .sl 9, .sl 67, .sl 127, .sl 69, .sl 72, .b, .sl 130] :: [], []⟩ a
noncomputable def r_laws_eqVarDefS (a : List DC) : Out := Run cfg 185 ⟨ol 162 :: ol 162 :: [], []⟩ a
noncomputable def r_laws_eqSelS (a : List DC) : Out := Run cfg 186 ⟨ol 193 :: ol 193 :: [], []⟩ a
noncomputable def r_spec_RuneText (a : List DC) : Out := Run cfg 187 ⟨oi :: [], []⟩ a
noncomputable def r_spec_l07Right (a : List DC) : Out := Run cfg 188 ⟨.agg [.i .i64, .s, .sl 125, .sl 9] :: oi :: [], []⟩ a
noncomputable def r_impl_fieldOk (a : List DC) : Out := Run cfg 84 ⟨.agg [.s, .s, .sl 127, .s, .s, .sl 130] :: [], []⟩ a
noncomputable def r_impl_insOk_1 (a : List DC) : Out := Run cfg 129 ⟨.agg [.s, .s, .s, .s, .b, .i .i64, .s, .sl 125, .sl 9, .sl 130] :: [], []⟩ a
noncomputable def r_impl_enumOk (a : List DC) : Out := Run cfg 88 ⟨.agg [.s, .s, .sl 130] :: [], []⟩ a
noncomputable def r_impl_rootOk (a : List DC) : Out := Run cfg 91 ⟨.agg [.i .i64, .s] :: [], []⟩ a
noncomputable def r_slices_IndexFunc_impl_Dir__impl_DirsOk_1 (a : List DC) : Out := Run cfg 172 ⟨ol 130 :: .one (.fn 170 []) :: [], []⟩ a
noncomputable def r_impl_constDirs_1 (a : List DC) : Out := Run cfg 137 ⟨.agg [.s, .sl 133] :: [], []⟩ a
noncomputable def r_laws_szVarDef (a : List DC) : Out := Run cfg 203 ⟨.agg [.s, .s, .s, .b, .i .i64, .s, .sl 108, .sl 9, .sl 119] :: oi :: [], []⟩ a
noncomputable def r_laws_szSel (a : List DC) : Out := Run cfg 204 ⟨.agg [.i .i64, .s, .s, .s, .sl 203, .sl 119, .sl 247] :: oi :: [], []⟩ a
noncomputable def r_laws_toVarDef (a : List DC) : Out := Run cfg 205 ⟨.agg [.s, .s, .s, .b, .i .i64, .s, .sl 108, .sl 9, .sl 119] :: [], []⟩ a
noncomputable def r_laws_toSel (a : List DC) : Out := Run cfg 206 ⟨.agg [.i .i64, .s, .s, .s, .sl 203, .sl 119, .sl 247] :: [], []⟩ a
noncomputable def r_impl_OpOk (a : List DC) : Out := Run cfg 107 ⟨.agg [.i .i64, .s, .sl 162, .sl 130, .sl 193] :: [], []⟩ a
noncomputable def r_impl_emptyFrag (a : List DC) : Out := Run cfg 108 ⟨.agg [.s, .s, .sl 130, .sl 193] :: [], []⟩ a
noncomputable def r_impl_emptyDef (a : List DC) : Out := Run cfg 109 ⟨.agg [.i .i64, .b, .s, .s, .sl 9, .sl 67, .sl 127, .sl 69, .sl 72, .b, .sl 130] :: [], []⟩ a
noncomputable def r_impl_emptyOp (a : List DC) : Out := Run cfg 110 ⟨.agg [.i .i64, .s, .sl 162, .sl 130, .sl 193] :: [], []⟩ a
noncomputable def r_impl_FragOk (a : List DC) : Out := Run cfg 111 ⟨.agg [.s, .s, .sl 130, .sl 193] :: [], []⟩ a
noncomputable def r_laws_eqVarDef (a : List DC) : Out := Run cfg 207 ⟨.agg [.s, .s, .s, .b, .i .i64, .s, .sl 125, .sl 9, .sl 130] :: .agg [.s, .s, .s, .b, .i .i64, .s, .sl 125, .sl 9, .sl 130] :: [], []⟩ a
noncomputable def r_laws_eqSel (a : List DC) : Out := Run cfg 208 ⟨.agg [.i .i64, .s, .s, .s, .sl 133, .sl 130, .sl 193] :: .agg [.i .i64, .s, .s, .s, .sl 133, .sl 130, .sl 193] :: [], []⟩ a
noncomputable def r_spec_l02Scalar (a : List DC) : Out := Run cfg 209 ⟨oi :: [], []⟩ a
noncomputable def r_spec_l07One (a : List DC) : Out := Run cfg 210 ⟨.agg [.i .i64, .s, .sl 125, .sl 9] :: [], []⟩ a
noncomputable def r_impl_TypeOk (a : List DC) : Out := Run cfg 127 ⟨.agg [.s, .s] :: [], []⟩ a
noncomputable def r_impl_inOk (a : List DC) : Out := Run cfg 130 ⟨.agg [.s, .s, .s, .s, .b, .i .i64, .s, .sl 125, .sl 9, .sl 130] :: [], []⟩ a
noncomputable def r_impl_Word (a : List DC) : Out := Run cfg 132 ⟨os :: [], []⟩ a
noncomputable def r_impl_OpWord (a : List DC) : Out := Run cfg 134 ⟨oi :: [], []⟩ a
noncomputable def r_impl_DirsOk_1 (a : List DC) : Out := Run cfg 170 ⟨.agg [.s, .sl 133] :: [], []⟩ a
noncomputable def r_slices_ContainsFunc_impl_Arg__impl_constDirs_1_1 (a : List DC) : Out := Run cfg 138 ⟨ol 133 :: .one (.fn 139 []) :: [], []⟩ a
noncomputable def r_slices_ContainsFunc_impl_VarDef__impl_OpOk_1 (a : List DC) : Out := Run cfg 151 ⟨ol 162 :: .one (.fn 152 []) :: [], []⟩ a
noncomputable def r_impl_selsOk (a : List DC) : Out := Run cfg 154 ⟨ol 193 :: [], []⟩ a
noncomputable def r_spec_IntOk (a : List DC) : Out := Run cfg 218 ⟨os :: [], []⟩ a
noncomputable def r_spec_FloatOk (a : List DC) : Out := Run cfg 219 ⟨os :: [], []⟩ a
noncomputable def r_strings_Trim (a : List DC) : Out := Run cfg 166 h_strings_Trim a
noncomputable def r_strings_Contains (a : List DC) : Out := Run cfg 167 h_strings_Contains a
noncomputable def r_impl_defaultOk (a : List DC) : Out := Run cfg 169 ⟨ob :: .agg [.i .i64, .s, .sl 125, .sl 9] :: [], []⟩ a
noncomputable def r_impl_ArgsOk (a : List DC) : Out := Run cfg 171 ⟨ol 133 :: [], []⟩ a
noncomputable def r_slices_IndexFunc_impl_Arg__impl_constDirs_1_1 (a : List DC) : Out := Run cfg 173 ⟨ol 133 :: .one (.fn 139 []) :: [], []⟩ a
noncomputable def r_slices_IndexFunc_impl_VarDef__impl_OpOk_1 (a : List DC) : Out := Run cfg 183 ⟨ol 162 :: .one (.fn 152 []) :: [], []⟩ a
noncomputable def r_impl_bound_selOk (a : List DC) : Out := Run cfg 184 ⟨.one (.ptr 0 0) :: .agg [.i .i64, .s, .s, .s, .sl 133, .sl 130, .sl 193] :: oi :: [], .var 224 [.i .i64] :: []⟩ a
noncomputable def r_spec_l03Int (a : List DC) : Out := Run cfg 230 ⟨os :: [], []⟩ a
noncomputable def r_spec_l03Run (a : List DC) : Out := Run cfg 231 ⟨os :: oi :: [], []⟩ a
noncomputable def r_impl_emptyValue (a : List DC) : Out := Run cfg 199 ⟨.agg [.i .i64, .s, .sl 125, .sl 9] :: [], []⟩ a
noncomputable def r_impl_ValueOk (a : List DC) : Out := Run cfg 200 ⟨.agg [.i .i64, .s, .sl 125, .sl 9] :: [], []⟩ a
noncomputable def r_impl_IsConst (a : List DC) : Out := Run cfg 140 ⟨.agg [.i .i64, .s, .sl 125, .sl 9] :: [], []⟩ a
noncomputable def r_slices_ContainsFunc_impl_Arg__impl_ArgsOk_1 (a : List DC) : Out := Run cfg 138 ⟨ol 133 :: .one (.fn 201 []) :: [], []⟩ a
noncomputable def r_impl_constDirs_1_1 (a : List DC) : Out := Run cfg 139 ⟨.agg [.s, .i .i64, .s, .sl 125, .sl 9] :: [], []⟩ a
noncomputable def r_impl_OpOk_1 (a : List DC) : Out := Run cfg 152 ⟨.agg [.s, .s, .s, .b, .i .i64, .s, .sl 125, .sl 9, .sl 130] :: [], []⟩ a
noncomputable def r_impl_plain (a : List DC) : Out := Run cfg 216 ⟨.agg [.i .i64, .s, .sl 125, .sl 9] :: [], []⟩ a
noncomputable def r_impl_valueOk (a : List DC) : Out := Run cfg 217 ⟨.agg [.i .i64, .s, .sl 125, .sl 9] :: oi :: [], []⟩ a
noncomputable def r_slices_ContainsFunc_impl_Value__impl_IsConst_1 (a : List DC) : Out := Run cfg 174 ⟨ol 125 :: .one (.fn 175 []) :: [], []⟩ a
noncomputable def r_slices_IndexFunc_impl_Arg__impl_ArgsOk_1 (a : List DC) : Out := Run cfg 173 ⟨ol 133 :: .one (.fn 201 []) :: [], []⟩ a
noncomputable def r_impl_VarDefOk (a : List DC) : Out := Run cfg 153 ⟨.agg [.s, .s, .s, .b, .i .i64, .s, .sl 125, .sl 9, .sl 130] :: [], []⟩ a
noncomputable def r_impl_IntOk (a : List DC) : Out := Run cfg 226 ⟨os :: [], []⟩ a
noncomputable def r_impl_FloatOk (a : List DC) : Out := Run cfg 227 ⟨os :: [], []⟩ a
noncomputable def r_slices_ContainsFunc_string__impl_valueOk_1 (a : List DC) : Out := Run cfg 43 ⟨ol 9 :: .one (.fn 228 []) :: [], []⟩ a
noncomputable def r_slices_ContainsFunc_impl_Value__impl_valueOk_2 (a : List DC) : Out := Run cfg 174 ⟨ol 125 :: .one (.fn 229 [0]) :: [], .var 3 [.i .i64] :: []⟩ a
noncomputable def r_slices_IndexFunc_impl_Value__impl_IsConst_1 (a : List DC) : Out := Run cfg 202 ⟨ol 125 :: .one (.fn 175 []) :: [], []⟩ a
noncomputable def r_impl_ArgsOk_1 (a : List DC) : Out := Run cfg 201 ⟨.agg [.s, .i .i64, .s, .sl 125, .sl 9] :: [], []⟩ a
noncomputable def r_strings_TrimPrefix (a : List DC) : Out := Run cfg 234 ⟨os :: os :: [], []⟩ a
noncomputable def r_impl_figures (a : List DC) : Out := Run cfg 235 ⟨os :: [], []⟩ a
noncomputable def r_strings_IndexAny (a : List DC) : Out := Run cfg 236 h_strings_IndexAny a
noncomputable def r_strings_Cut (a : List DC) : Out := Run cfg 237 ⟨os :: os :: [], []⟩ a
noncomputable def r_slices_IndexFunc_string__impl_valueOk_1 (a : List DC) : Out := Run cfg 96 ⟨ol 9 :: .one (.fn 228 []) :: [], []⟩ a
noncomputable def r_slices_IndexFunc_impl_Value__impl_valueOk_2 (a : List DC) : Out := Run cfg 202 ⟨ol 125 :: .one (.fn 229 [0]) :: [], .var 3 [.i .i64] :: []⟩ a
noncomputable def r_impl_IsConst_1 (a : List DC) : Out := Run cfg 175 ⟨.agg [.i .i64, .s, .sl 125, .sl 9] :: [], []⟩ a
noncomputable def r_internal_stringslite_TrimPrefix (a : List DC) : Out := Run cfg 238 ⟨os :: os :: [], []⟩ a
noncomputable def r_internal_stringslite_Cut (a : List DC) : Out := Run cfg 240 h_internal_stringslite_Cut a
noncomputable def r_impl_valueOk_1 (a : List DC) : Out := Run cfg 228 ⟨os :: [], []⟩ a
noncomputable def r_impl_valueOk_2 (a : List DC) : Out := Run cfg 229 ⟨.agg [.i .i64, .s, .sl 125, .sl 9] :: .one (.ptr 0 0) :: [], .var 3 [.i .i64] :: []⟩ a
noncomputable def r_internal_stringslite_HasPrefix (a : List DC) : Out := Run cfg 241 ⟨os :: os :: [], []⟩ a
noncomputable def E_laws_FnExactDocOk (a : List DC) : Out :=
 (r_laws_szDoc [.sl ((a.getD 0 d0).ll), .i (1048576 : Int)]).bindR fun r1 =>
 if (decide ((r1.getD 0 d0).ii < (0 : Int))) = true then
 .ret [.b true]
 else
 (r_laws_toDoc [.sl ((a.getD 0 d0).ll)]).bindR fun r2 =>
 (r_spec_DocOk [.sl ((r2.getD 0 d0).ll)]).bindR fun r3 =>
 (r_laws_toDoc [.sl ((a.getD 0 d0).ll)]).bindR fun r4 =>
 (r_impl_DocOk [.sl ((r4.getD 0 d0).ll)]).bindR fun r5 =>
 if (!((r5.getD 0 d0).bb == (r3.getD 0 d0).bb)) = true then
 .ret [.b false]
 else
 (r_laws_toDoc [.sl ((a.getD 0 d0).ll)]).bindR fun r6 =>
 (r_laws_eqDoc [.sl ((r4.getD 0 d0).ll), .sl ((r6.getD 0 d0).ll)]).bindR fun r7 =>
 if (!((r7.getD 0 d0).bb)) = true then
 .ret [.b false]
 else
 .ret [.b true]
theorem eq_laws_FnExactDocOk a : r_laws_FnExactDocOk a = E_laws_FnExactDocOk a := (Run_eq cfg 4 _ a).trans (by kernel_rfl)
noncomputable def E_laws_szDef (a : List DC) : Out :=
 if (decide ((IntKind.i64.wrap ((a.getD 11 d0).ii - (((a.getD 2 d0).ss).length : Int))) < (0 : Int))) = true then
 .ret [.i (-1 : Int)]
 else
 if (decide ((IntKind.i64.wrap ((IntKind.i64.wrap ((a.getD 11 d0).ii - (((a.getD 2 d0).ss).length : Int))) - (((a.getD 3 d0).ss).length : Int))) < (0 : Int))) = true then
 .ret [.i (-1 : Int)]
 else
 (r_laws_szStringS [.sl ((a.getD 4 d0).ll), .i (IntKind.i64.wrap ((IntKind.i64.wrap ((a.getD 11 d0).ii - (((a.getD 2 d0).ss).length : Int))) - (((a.getD 3 d0).ss).length : Int)))]).bindR fun r1 =>
 if (decide ((r1.getD 0 d0).ii < (0 : Int))) = true then
 .ret [.i (-1 : Int)]
 else
 (r_laws_szFieldDefS [.sl ((a.getD 5 d0).ll), .i ((r1.getD 0 d0).ii)]).bindR fun r2 =>
 if (decide ((r2.getD 0 d0).ii < (0 : Int))) = true then
 .ret [.i (-1 : Int)]
 else
 (r_laws_szInDefS [.sl ((a.getD 6 d0).ll), .i ((r2.getD 0 d0).ii)]).bindR fun r3 =>
 if (decide ((r3.getD 0 d0).ii < (0 : Int))) = true then
 .ret [.i (-1 : Int)]
 else
 (r_laws_szEnumDefS [.sl ((a.getD 7 d0).ll), .i ((r3.getD 0 d0).ii)]).bindR fun r4 =>
 if (decide ((r4.getD 0 d0).ii < (0 : Int))) = true then
 .ret [.i (-1 : Int)]
 else
 (r_laws_szRootS [.sl ((a.getD 8 d0).ll), .i ((r4.getD 0 d0).ii)]).bindR fun r5 =>
 if (decide ((r5.getD 0 d0).ii < (0 : Int))) = true then
 .ret [.i (-1 : Int)]
 else
 (r_laws_szDirS [.sl ((a.getD 10 d0).ll), .i ((r5.getD 0 d0).ii)]).bindR fun r6 =>
 if (decide ((r6.getD 0 d0).ii < (0 : Int))) = true then
 .ret [.i (-1 : Int)]
 else
 .ret [.i ((r6.getD 0 d0).ii)]
theorem eq_laws_szDef a : r_laws_szDef a = E_laws_szDef a := (Run_eq cfg 5 _ a).trans (by kernel_rfl)
noncomputable def E_laws_toDef (a : List DC) : Out :=
 (r_laws_toStringS [.sl ((a.getD 4 d0).ll)]).bindR fun r1 =>
 (r_laws_toFieldDefS [.sl ((a.getD 5 d0).ll)]).bindR fun r2 =>
 (r_laws_toInDefS [.sl ((a.getD 6 d0).ll)]).bindR fun r3 =>
 (r_laws_toEnumDefS [.sl ((a.getD 7 d0).ll)]).bindR fun r4 =>
 (r_laws_toRootS [.sl ((a.getD 8 d0).ll)]).bindR fun r5 =>
 (r_laws_toDirS [.sl ((a.getD 10 d0).ll)]).bindR fun r6 =>
 .ret [.i ((a.getD 0 d0).ii), .b ((a.getD 1 d0).bb), .s ((a.getD 2 d0).ss), .s ((a.getD 3 d0).ss), .sl ((r1.getD 0 d0).ll), .sl ((r2.getD 0 d0).ll), .sl ((r3.getD 0 d0).ll), .sl ((r4.getD 0 d0).ll), .sl ((r5.getD 0 d0).ll), .b ((a.getD 9 d0).bb), .sl ((r6.getD 0 d0).ll)]
theorem eq_laws_toDef a : r_laws_toDef a = E_laws_toDef a := (Run_eq cfg 7 _ a).trans (by kernel_rfl)
noncomputable def E_spec_DefOkL1 : List DC → Out := fun v17 =>
 if (decide ((v17.getD 0 d0).ii < (((v17.getD 5 d0).ll).length : Int))) = true then
 Out.andThenB (if 9 = 9 ∧ 0 ≤ (v17.getD 0 d0).ii ∧ (v17.getD 0 d0).ii < (((v17.getD 5 d0).ll).length : Int) then
 (r_spec_NameOk [.s (((((v17.getD 5 d0).ll).getD ((v17.getD 0 d0).ii).toNat []).getD 0 d0).ss)]).bindR fun r18 =>
 if (!((r18.getD 0 d0).bb)) = true then
 .ret [.b false]
 else
 .norm [.i ((v17.getD 0 d0).ii), .i ((v17.getD 1 d0).ii), .b ((v17.getD 2 d0).bb), .s ((v17.getD 3 d0).ss), .s ((v17.getD 4 d0).ss), .sl ((v17.getD 5 d0).ll), .sl ((v17.getD 6 d0).ll), .sl ((v17.getD 7 d0).ll), .sl ((v17.getD 8 d0).ll), .sl ((v17.getD 9 d0).ll), .b ((v17.getD 10 d0).bb), .sl ((v17.getD 11 d0).ll)]
 else
 .fail) 1 fun v19 =>
 .norm [.i (IntKind.i64.wrap ((v19.getD 0 d0).ii + (1 : Int))), .i ((v19.getD 1 d0).ii), .b ((v19.getD 2 d0).bb), .s ((v19.getD 3 d0).ss), .s ((v19.getD 4 d0).ss), .sl ((v19.getD 5 d0).ll), .sl ((v19.getD 6 d0).ll), .sl ((v19.getD 7 d0).ll), .sl ((v19.getD 8 d0).ll), .sl ((v19.getD 9 d0).ll), .b ((v19.getD 10 d0).bb), .sl ((v19.getD 11 d0).ll)]
 else
 .ex 0 [.i ((v17.getD 1 d0).ii), .b ((v17.getD 2 d0).bb), .s ((v17.getD 3 d0).ss), .s ((v17.getD 4 d0).ss), .sl ((v17.getD 5 d0).ll), .sl ((v17.getD 6 d0).ll), .sl ((v17.getD 7 d0).ll), .sl ((v17.getD 8 d0).ll), .sl ((v17.getD 9 d0).ll), .b ((v17.getD 10 d0).bb), .sl ((v17.getD 11 d0).ll)]
noncomputable def E_spec_DefOkL2 : List DC → Out := fun v21 =>
 if (decide ((v21.getD 0 d0).ii < (((v21.getD 6 d0).ll).length : Int))) = true then
 Out.andThenB (if 67 = 67 ∧ 0 ≤ (v21.getD 0 d0).ii ∧ (v21.getD 0 d0).ii < (((v21.getD 6 d0).ll).length : Int) then
 (r_spec_l13Field [.s (((((v21.getD 6 d0).ll).getD ((v21.getD 0 d0).ii).toNat []).getD 0 d0).ss), .s (((((v21.getD 6 d0).ll).getD ((v21.getD 0 d0).ii).toNat []).getD 1 d0).ss), .sl (((((v21.getD 6 d0).ll).getD ((v21.getD 0 d0).ii).toNat []).getD 2 d0).ll), .s (((((v21.getD 6 d0).ll).getD ((v21.getD 0 d0).ii).toNat []).getD 3 d0).ss), .s (((((v21.getD 6 d0).ll).getD ((v21.getD 0 d0).ii).toNat []).getD 4 d0).ss), .sl (((((v21.getD 6 d0).ll).getD ((v21.getD 0 d0).ii).toNat []).getD 5 d0).ll)]).bindR fun r22 =>
 if (!((r22.getD 0 d0).bb)) = true then
 .ret [.b false]
 else
 .norm [.i ((v21.getD 0 d0).ii), .i ((v21.getD 1 d0).ii), .b ((v21.getD 2 d0).bb), .s ((v21.getD 3 d0).ss), .s ((v21.getD 4 d0).ss), .sl ((v21.getD 5 d0).ll), .sl ((v21.getD 6 d0).ll), .sl ((v21.getD 7 d0).ll), .sl ((v21.getD 8 d0).ll), .sl ((v21.getD 9 d0).ll), .b ((v21.getD 10 d0).bb), .sl ((v21.getD 11 d0).ll)]
 else
 .fail) 3 fun v23 =>
 .norm [.i (IntKind.i64.wrap ((v23.getD 0 d0).ii + (1 : Int))), .i ((v23.getD 1 d0).ii), .b ((v23.getD 2 d0).bb), .s ((v23.getD 3 d0).ss), .s ((v23.getD 4 d0).ss), .sl ((v23.getD 5 d0).ll), .sl ((v23.getD 6 d0).ll), .sl ((v23.getD 7 d0).ll), .sl ((v23.getD 8 d0).ll), .sl ((v23.getD 9 d0).ll), .b ((v23.getD 10 d0).bb), .sl ((v23.getD 11 d0).ll)]
 else
 .ex 2 [.i ((v21.getD 1 d0).ii), .b ((v21.getD 2 d0).bb), .s ((v21.getD 3 d0).ss), .s ((v21.getD 4 d0).ss), .sl ((v21.getD 5 d0).ll), .sl ((v21.getD 6 d0).ll), .sl ((v21.getD 7 d0).ll), .sl ((v21.getD 8 d0).ll), .sl ((v21.getD 9 d0).ll), .b ((v21.getD 10 d0).bb), .sl ((v21.getD 11 d0).ll)]
noncomputable def E_spec_DefOkL3 : List DC → Out := fun v25 =>
 if (decide ((v25.getD 0 d0).ii < (((v25.getD 8 d0).ll).length : Int))) = true then
 Out.andThenB (if 69 = 69 ∧ 0 ≤ (v25.getD 0 d0).ii ∧ (v25.getD 0 d0).ii < (((v25.getD 8 d0).ll).length : Int) then
 Out.andThen ((r_spec_NameOk [.s (((((v25.getD 8 d0).ll).getD ((v25.getD 0 d0).ii).toNat []).getD 0 d0).ss)]).bindR fun r26 =>
 if (!((r26.getD 0 d0).bb)) = true then
 .norm [.i ((v25.getD 0 d0).ii), .b true, .i ((v25.getD 1 d0).ii), .b ((v25.getD 2 d0).bb), .s ((v25.getD 3 d0).ss), .s ((v25.getD 4 d0).ss), .sl ((v25.getD 5 d0).ll), .sl ((v25.getD 6 d0).ll), .sl ((v25.getD 7 d0).ll), .sl ((v25.getD 8 d0).ll), .sl ((v25.getD 9 d0).ll), .b ((v25.getD 10 d0).bb), .sl ((v25.getD 11 d0).ll)]
 else
 (r_spec_Word [.s (((((v25.getD 8 d0).ll).getD ((v25.getD 0 d0).ii).toNat []).getD 0 d0).ss)]).bindR fun r27 =>
 if (r27.getD 0 d0).bb = true then
 .norm [.i ((v25.getD 0 d0).ii), .b true, .i ((v25.getD 1 d0).ii), .b ((v25.getD 2 d0).bb), .s ((v25.getD 3 d0).ss), .s ((v25.getD 4 d0).ss), .sl ((v25.getD 5 d0).ll), .sl ((v25.getD 6 d0).ll), .sl ((v25.getD 7 d0).ll), .sl ((v25.getD 8 d0).ll), .sl ((v25.getD 9 d0).ll), .b ((v25.getD 10 d0).bb), .sl ((v25.getD 11 d0).ll)]
 else
 (r_spec_l13Desc [.s (((((v25.getD 8 d0).ll).getD ((v25.getD 0 d0).ii).toNat []).getD 1 d0).ss)]).bindR fun r28 =>
 if (!((r28.getD 0 d0).bb)) = true then
 .norm [.i ((v25.getD 0 d0).ii), .b true, .i ((v25.getD 1 d0).ii), .b ((v25.getD 2 d0).bb), .s ((v25.getD 3 d0).ss), .s ((v25.getD 4 d0).ss), .sl ((v25.getD 5 d0).ll), .sl ((v25.getD 6 d0).ll), .sl ((v25.getD 7 d0).ll), .sl ((v25.getD 8 d0).ll), .sl ((v25.getD 9 d0).ll), .b ((v25.getD 10 d0).bb), .sl ((v25.getD 11 d0).ll)]
 else
 (r_spec_l12Consts [.sl (((((v25.getD 8 d0).ll).getD ((v25.getD 0 d0).ii).toNat []).getD 2 d0).ll)]).bindR fun r29 =>
 .norm [.i ((v25.getD 0 d0).ii), .b (!((r29.getD 0 d0).bb)), .i ((v25.getD 1 d0).ii), .b ((v25.getD 2 d0).bb), .s ((v25.getD 3 d0).ss), .s ((v25.getD 4 d0).ss), .sl ((v25.getD 5 d0).ll), .sl ((v25.getD 6 d0).ll), .sl ((v25.getD 7 d0).ll), .sl ((v25.getD 8 d0).ll), .sl ((v25.getD 9 d0).ll), .b ((v25.getD 10 d0).bb), .sl ((v25.getD 11 d0).ll)]) fun v30 =>
 if (v30.getD 1 d0).bb = true then
 .ret [.b false]
 else
 .norm [.i ((v30.getD 0 d0).ii), .i ((v30.getD 2 d0).ii), .b ((v30.getD 3 d0).bb), .s ((v30.getD 4 d0).ss), .s ((v30.getD 5 d0).ss), .sl ((v30.getD 6 d0).ll), .sl ((v30.getD 7 d0).ll), .sl ((v30.getD 8 d0).ll), .sl ((v30.getD 9 d0).ll), .sl ((v30.getD 10 d0).ll), .b ((v30.getD 11 d0).bb), .sl ((v30.getD 12 d0).ll)]
 else
 .fail) 5 fun v31 =>
 .norm [.i (IntKind.i64.wrap ((v31.getD 0 d0).ii + (1 : Int))), .i ((v31.getD 1 d0).ii), .b ((v31.getD 2 d0).bb), .s ((v31.getD 3 d0).ss), .s ((v31.getD 4 d0).ss), .sl ((v31.getD 5 d0).ll), .sl ((v31.getD 6 d0).ll), .sl ((v31.getD 7 d0).ll), .sl ((v31.getD 8 d0).ll), .sl ((v31.getD 9 d0).ll), .b ((v31.getD 10 d0).bb), .sl ((v31.getD 11 d0).ll)]
 else
 .ex 4 [.i ((v25.getD 1 d0).ii), .b ((v25.getD 2 d0).bb), .s ((v25.getD 3 d0).ss), .s ((v25.getD 4 d0).ss), .sl ((v25.getD 5 d0).ll), .sl ((v25.getD 6 d0).ll), .sl ((v25.getD 7 d0).ll), .sl ((v25.getD 8 d0).ll), .sl ((v25.getD 9 d0).ll), .b ((v25.getD 10 d0).bb), .sl ((v25.getD 11 d0).ll)]
noncomputable def E_spec_DefOkL4 : List DC → Out := fun v33 =>
 if (decide ((v33.getD 0 d0).ii < (((v33.getD 9 d0).ll).length : Int))) = true then
 Out.andThenB (Out.andThen (if 72 = 72 ∧ 0 ≤ (v33.getD 0 d0).ii ∧ (v33.getD 0 d0).ii < (((v33.getD 9 d0).ll).length : Int) then
 (r_spec_OpWord [.i (((((v33.getD 9 d0).ll).getD ((v33.getD 0 d0).ii).toNat []).getD 0 d0).ii)]).bindR fun r34 =>
 if ((r34.getD 0 d0).ss == ([] : List UInt8)) = true then
 .norm [.i ((v33.getD 0 d0).ii), .b true, .i ((v33.getD 1 d0).ii), .b ((v33.getD 2 d0).bb), .s ((v33.getD 3 d0).ss), .s ((v33.getD 4 d0).ss), .sl ((v33.getD 5 d0).ll), .sl ((v33.getD 6 d0).ll), .sl ((v33.getD 7 d0).ll), .sl ((v33.getD 8 d0).ll), .sl ((v33.getD 9 d0).ll), .b ((v33.getD 10 d0).bb), .sl ((v33.getD 11 d0).ll)]
 else
 if 72 = 72 ∧ 0 ≤ (v33.getD 0 d0).ii ∧ (v33.getD 0 d0).ii < (((v33.getD 9 d0).ll).length : Int) then
 (r_spec_NameOk [.s (((((v33.getD 9 d0).ll).getD ((v33.getD 0 d0).ii).toNat []).getD 1 d0).ss)]).bindR fun r35 =>
 .norm [.i ((v33.getD 0 d0).ii), .b (!((r35.getD 0 d0).bb)), .i ((v33.getD 1 d0).ii), .b ((v33.getD 2 d0).bb), .s ((v33.getD 3 d0).ss), .s ((v33.getD 4 d0).ss), .sl ((v33.getD 5 d0).ll), .sl ((v33.getD 6 d0).ll), .sl ((v33.getD 7 d0).ll), .sl ((v33.getD 8 d0).ll), .sl ((v33.getD 9 d0).ll), .b ((v33.getD 10 d0).bb), .sl ((v33.getD 11 d0).ll)]
 else
 .fail
 else
 .fail) fun v36 =>
 if (v36.getD 1 d0).bb = true then
 .ret [.b false]
 else
 .norm [.i ((v36.getD 0 d0).ii), .i ((v36.getD 2 d0).ii), .b ((v36.getD 3 d0).bb), .s ((v36.getD 4 d0).ss), .s ((v36.getD 5 d0).ss), .sl ((v36.getD 6 d0).ll), .sl ((v36.getD 7 d0).ll), .sl ((v36.getD 8 d0).ll), .sl ((v36.getD 9 d0).ll), .sl ((v36.getD 10 d0).ll), .b ((v36.getD 11 d0).bb), .sl ((v36.getD 12 d0).ll)]) 7 fun v37 =>
 .norm [.i (IntKind.i64.wrap ((v37.getD 0 d0).ii + (1 : Int))), .i ((v37.getD 1 d0).ii), .b ((v37.getD 2 d0).bb), .s ((v37.getD 3 d0).ss), .s ((v37.getD 4 d0).ss), .sl ((v37.getD 5 d0).ll), .sl ((v37.getD 6 d0).ll), .sl ((v37.getD 7 d0).ll), .sl ((v37.getD 8 d0).ll), .sl ((v37.getD 9 d0).ll), .b ((v37.getD 10 d0).bb), .sl ((v37.getD 11 d0).ll)]
 else
 .ex 6 []
noncomputable def E_spec_DefOk (a : List DC) : Out :=
 Out.andThen ((r_spec_l01In [.i ((a.getD 0 d0).ii), .i (1 : Int), .i (8 : Int)]).bindR fun r1 =>
 if (!((r1.getD 0 d0).bb)) = true then
 .norm [.b true, .i ((a.getD 0 d0).ii), .b ((a.getD 1 d0).bb), .s ((a.getD 2 d0).ss), .s ((a.getD 3 d0).ss), .sl ((a.getD 4 d0).ll), .sl ((a.getD 5 d0).ll), .sl ((a.getD 6 d0).ll), .sl ((a.getD 7 d0).ll), .sl ((a.getD 8 d0).ll), .b ((a.getD 9 d0).bb), .sl ((a.getD 10 d0).ll)]
 else
 (r_spec_l13Desc [.s ((a.getD 2 d0).ss)]).bindR fun r2 =>
 if (!((r2.getD 0 d0).bb)) = true then
 .norm [.b true, .i ((a.getD 0 d0).ii), .b ((a.getD 1 d0).bb), .s ((a.getD 2 d0).ss), .s ((a.getD 3 d0).ss), .sl ((a.getD 4 d0).ll), .sl ((a.getD 5 d0).ll), .sl ((a.getD 6 d0).ll), .sl ((a.getD 7 d0).ll), .sl ((a.getD 8 d0).ll), .b ((a.getD 9 d0).bb), .sl ((a.getD 10 d0).ll)]
 else
 if (a.getD 1 d0).bb = true then
 if (!((a.getD 2 d0).ss == ([] : List UInt8))) = true then
 .norm [.b true, .i ((a.getD 0 d0).ii), .b ((a.getD 1 d0).bb), .s ((a.getD 2 d0).ss), .s ((a.getD 3 d0).ss), .sl ((a.getD 4 d0).ll), .sl ((a.getD 5 d0).ll), .sl ((a.getD 6 d0).ll), .sl ((a.getD 7 d0).ll), .sl ((a.getD 8 d0).ll), .b ((a.getD 9 d0).bb), .sl ((a.getD 10 d0).ll)]
 else
 (r_spec_l13Has [.i ((a.getD 0 d0).ii), .b ((a.getD 1 d0).bb), .s ((a.getD 2 d0).ss), .s ((a.getD 3 d0).ss), .sl ((a.getD 4 d0).ll), .sl ((a.getD 5 d0).ll), .sl ((a.getD 6 d0).ll), .sl ((a.getD 7 d0).ll), .sl ((a.getD 8 d0).ll), .b ((a.getD 9 d0).bb), .sl ((a.getD 10 d0).ll)]).bindR fun r3 =>
 if (!((r3.getD 0 d0).bb)) = true then
 .norm [.b true, .i ((a.getD 0 d0).ii), .b ((a.getD 1 d0).bb), .s ((a.getD 2 d0).ss), .s ((a.getD 3 d0).ss), .sl ((a.getD 4 d0).ll), .sl ((a.getD 5 d0).ll), .sl ((a.getD 6 d0).ll), .sl ((a.getD 7 d0).ll), .sl ((a.getD 8 d0).ll), .b ((a.getD 9 d0).bb), .sl ((a.getD 10 d0).ll)]
 else
 (r_spec_l13May [.i ((a.getD 0 d0).ii), .b ((a.getD 1 d0).bb), .s ((a.getD 2 d0).ss), .s ((a.getD 3 d0).ss), .sl ((a.getD 4 d0).ll), .sl ((a.getD 5 d0).ll), .sl ((a.getD 6 d0).ll), .sl ((a.getD 7 d0).ll), .sl ((a.getD 8 d0).ll), .b ((a.getD 9 d0).bb), .sl ((a.getD 10 d0).ll)]).bindR fun r4 =>
 if (!((r4.getD 0 d0).bb)) = true then
 .norm [.b true, .i ((a.getD 0 d0).ii), .b ((a.getD 1 d0).bb), .s ((a.getD 2 d0).ss), .s ((a.getD 3 d0).ss), .sl ((a.getD 4 d0).ll), .sl ((a.getD 5 d0).ll), .sl ((a.getD 6 d0).ll), .sl ((a.getD 7 d0).ll), .sl ((a.getD 8 d0).ll), .b ((a.getD 9 d0).bb), .sl ((a.getD 10 d0).ll)]
 else
 if ((a.getD 0 d0).ii != (8 : Int)) = true then
 (r_spec_NameOk [.s ((a.getD 3 d0).ss)]).bindR fun r5 =>
 if (!((r5.getD 0 d0).bb)) = true then
 .norm [.b true, .i ((a.getD 0 d0).ii), .b ((a.getD 1 d0).bb), .s ((a.getD 2 d0).ss), .s ((a.getD 3 d0).ss), .sl ((a.getD 4 d0).ll), .sl ((a.getD 5 d0).ll), .sl ((a.getD 6 d0).ll), .sl ((a.getD 7 d0).ll), .sl ((a.getD 8 d0).ll), .b ((a.getD 9 d0).bb), .sl ((a.getD 10 d0).ll)]
 else
 (r_spec_l13Ins [.sl ((a.getD 6 d0).ll)]).bindR fun r6 =>
 if (!((r6.getD 0 d0).bb)) = true then
 .norm [.b true, .i ((a.getD 0 d0).ii), .b ((a.getD 1 d0).bb), .s ((a.getD 2 d0).ss), .s ((a.getD 3 d0).ss), .sl ((a.getD 4 d0).ll), .sl ((a.getD 5 d0).ll), .sl ((a.getD 6 d0).ll), .sl ((a.getD 7 d0).ll), .sl ((a.getD 8 d0).ll), .b ((a.getD 9 d0).bb), .sl ((a.getD 10 d0).ll)]
 else
 (r_spec_l12Consts [.sl ((a.getD 10 d0).ll)]).bindR fun r7 =>
 .norm [.b (!((r7.getD 0 d0).bb)), .i ((a.getD 0 d0).ii), .b ((a.getD 1 d0).bb), .s ((a.getD 2 d0).ss), .s ((a.getD 3 d0).ss), .sl ((a.getD 4 d0).ll), .sl ((a.getD 5 d0).ll), .sl ((a.getD 6 d0).ll), .sl ((a.getD 7 d0).ll), .sl ((a.getD 8 d0).ll), .b ((a.getD 9 d0).bb), .sl ((a.getD 10 d0).ll)]
 else
 (r_spec_l13Ins [.sl ((a.getD 6 d0).ll)]).bindR fun r8 =>
 if (!((r8.getD 0 d0).bb)) = true then
 .norm [.b true, .i ((a.getD 0 d0).ii), .b ((a.getD 1 d0).bb), .s ((a.getD 2 d0).ss), .s ((a.getD 3 d0).ss), .sl ((a.getD 4 d0).ll), .sl ((a.getD 5 d0).ll), .sl ((a.getD 6 d0).ll), .sl ((a.getD 7 d0).ll), .sl ((a.getD 8 d0).ll), .b ((a.getD 9 d0).bb), .sl ((a.getD 10 d0).ll)]
 else
 (r_spec_l12Consts [.sl ((a.getD 10 d0).ll)]).bindR fun r9 =>
 .norm [.b (!((r9.getD 0 d0).bb)), .i ((a.getD 0 d0).ii), .b ((a.getD 1 d0).bb), .s ((a.getD 2 d0).ss), .s ((a.getD 3 d0).ss), .sl ((a.getD 4 d0).ll), .sl ((a.getD 5 d0).ll), .sl ((a.getD 6 d0).ll), .sl ((a.getD 7 d0).ll), .sl ((a.getD 8 d0).ll), .b ((a.getD 9 d0).bb), .sl ((a.getD 10 d0).ll)]
 else
 (r_spec_l13May [.i ((a.getD 0 d0).ii), .b ((a.getD 1 d0).bb), .s ((a.getD 2 d0).ss), .s ((a.getD 3 d0).ss), .sl ((a.getD 4 d0).ll), .sl ((a.getD 5 d0).ll), .sl ((a.getD 6 d0).ll), .sl ((a.getD 7 d0).ll), .sl ((a.getD 8 d0).ll), .b ((a.getD 9 d0).bb), .sl ((a.getD 10 d0).ll)]).bindR fun r10 =>
 if (!((r10.getD 0 d0).bb)) = true then
 .norm [.b true, .i ((a.getD 0 d0).ii), .b ((a.getD 1 d0).bb), .s ((a.getD 2 d0).ss), .s ((a.getD 3 d0).ss), .sl ((a.getD 4 d0).ll), .sl ((a.getD 5 d0).ll), .sl ((a.getD 6 d0).ll), .sl ((a.getD 7 d0).ll), .sl ((a.getD 8 d0).ll), .b ((a.getD 9 d0).bb), .sl ((a.getD 10 d0).ll)]
 else
 if ((a.getD 0 d0).ii != (8 : Int)) = true then
 (r_spec_NameOk [.s ((a.getD 3 d0).ss)]).bindR fun r11 =>
 if (!((r11.getD 0 d0).bb)) = true then
 .norm [.b true, .i ((a.getD 0 d0).ii), .b ((a.getD 1 d0).bb), .s ((a.getD 2 d0).ss), .s ((a.getD 3 d0).ss), .sl ((a.getD 4 d0).ll), .sl ((a.getD 5 d0).ll), .sl ((a.getD 6 d0).ll), .sl ((a.getD 7 d0).ll), .sl ((a.getD 8 d0).ll), .b ((a.getD 9 d0).bb), .sl ((a.getD 10 d0).ll)]
 else
 (r_spec_l13Ins [.sl ((a.getD 6 d0).ll)]).bindR fun r12 =>
 if (!((r12.getD 0 d0).bb)) = true then
 .norm [.b true, .i ((a.getD 0 d0).ii), .b ((a.getD 1 d0).bb), .s ((a.getD 2 d0).ss), .s ((a.getD 3 d0).ss), .sl ((a.getD 4 d0).ll), .sl ((a.getD 5 d0).ll), .sl ((a.getD 6 d0).ll), .sl ((a.getD 7 d0).ll), .sl ((a.getD 8 d0).ll), .b ((a.getD 9 d0).bb), .sl ((a.getD 10 d0).ll)]
 else
 (r_spec_l12Consts [.sl ((a.getD 10 d0).ll)]).bindR fun r13 =>
 .norm [.b (!((r13.getD 0 d0).bb)), .i ((a.getD 0 d0).ii), .b ((a.getD 1 d0).bb), .s ((a.getD 2 d0).ss), .s ((a.getD 3 d0).ss), .sl ((a.getD 4 d0).ll), .sl ((a.getD 5 d0).ll), .sl ((a.getD 6 d0).ll), .sl ((a.getD 7 d0).ll), .sl ((a.getD 8 d0).ll), .b ((a.getD 9 d0).bb), .sl ((a.getD 10 d0).ll)]
 else
 (r_spec_l13Ins [.sl ((a.getD 6 d0).ll)]).bindR fun r14 =>
 if (!((r14.getD 0 d0).bb)) = true then
 .norm [.b true, .i ((a.getD 0 d0).ii), .b ((a.getD 1 d0).bb), .s ((a.getD 2 d0).ss), .s ((a.getD 3 d0).ss), .sl ((a.getD 4 d0).ll), .sl ((a.getD 5 d0).ll), .sl ((a.getD 6 d0).ll), .sl ((a.getD 7 d0).ll), .sl ((a.getD 8 d0).ll), .b ((a.getD 9 d0).bb), .sl ((a.getD 10 d0).ll)]
 else
 (r_spec_l12Consts [.sl ((a.getD 10 d0).ll)]).bindR fun r15 =>
 .norm [.b (!((r15.getD 0 d0).bb)), .i ((a.getD 0 d0).ii), .b ((a.getD 1 d0).bb), .s ((a.getD 2 d0).ss), .s ((a.getD 3 d0).ss), .sl ((a.getD 4 d0).ll), .sl ((a.getD 5 d0).ll), .sl ((a.getD 6 d0).ll), .sl ((a.getD 7 d0).ll), .sl ((a.getD 8 d0).ll), .b ((a.getD 9 d0).bb), .sl ((a.getD 10 d0).ll)]) fun v16 =>
 if (v16.getD 0 d0).bb = true then
 .ret [.b false]
 else
 Out.andThenB (Loop E_spec_DefOkL1 [.i (0 : Int), .i ((v16.getD 1 d0).ii), .b ((v16.getD 2 d0).bb), .s ((v16.getD 3 d0).ss), .s ((v16.getD 4 d0).ss), .sl ((v16.getD 5 d0).ll), .sl ((v16.getD 6 d0).ll), .sl ((v16.getD 7 d0).ll), .sl ((v16.getD 8 d0).ll), .sl ((v16.getD 9 d0).ll), .b ((v16.getD 10 d0).bb), .sl ((v16.getD 11 d0).ll)]) 0 fun v20 =>
 Out.andThenB (Loop E_spec_DefOkL2 [.i (0 : Int), .i ((v20.getD 0 d0).ii), .b ((v20.getD 1 d0).bb), .s ((v20.getD 2 d0).ss), .s ((v20.getD 3 d0).ss), .sl ((v20.getD 4 d0).ll), .sl ((v20.getD 5 d0).ll), .sl ((v20.getD 6 d0).ll), .sl ((v20.getD 7 d0).ll), .sl ((v20.getD 8 d0).ll), .b ((v20.getD 9 d0).bb), .sl ((v20.getD 10 d0).ll)]) 2 fun v24 =>
 Out.andThenB (Loop E_spec_DefOkL3 [.i (0 : Int), .i ((v24.getD 0 d0).ii), .b ((v24.getD 1 d0).bb), .s ((v24.getD 2 d0).ss), .s ((v24.getD 3 d0).ss), .sl ((v24.getD 4 d0).ll), .sl ((v24.getD 5 d0).ll), .sl ((v24.getD 6 d0).ll), .sl ((v24.getD 7 d0).ll), .sl ((v24.getD 8 d0).ll), .b ((v24.getD 9 d0).bb), .sl ((v24.getD 10 d0).ll)]) 4 fun v32 =>
 Out.andThenB (Loop E_spec_DefOkL4 [.i (0 : Int), .i ((v32.getD 0 d0).ii), .b ((v32.getD 1 d0).bb), .s ((v32.getD 2 d0).ss), .s ((v32.getD 3 d0).ss), .sl ((v32.getD 4 d0).ll), .sl ((v32.getD 5 d0).ll), .sl ((v32.getD 6 d0).ll), .sl ((v32.getD 7 d0).ll), .sl ((v32.getD 8 d0).ll), .b ((v32.getD 9 d0).bb), .sl ((v32.getD 10 d0).ll)]) 6 fun v38 =>
 .ret [.b true]
theorem eq_spec_DefOk a : r_spec_DefOk a = E_spec_DefOk a := (Run_eq cfg 6 _ a).trans (by kernel_rfl)
noncomputable def E_impl_DefOk (a : List DC) : Out :=
 Out.andThen ((r_impl_in [.i ((a.getD 0 d0).ii), .i (1 : Int), .i (8 : Int)]).bindR fun r1 =>
 if (!((r1.getD 0 d0).bb)) = true then
 .norm [.b true, .i ((a.getD 0 d0).ii), .b ((a.getD 1 d0).bb), .s ((a.getD 2 d0).ss), .s ((a.getD 3 d0).ss), .sl ((a.getD 4 d0).ll), .sl ((a.getD 5 d0).ll), .sl ((a.getD 6 d0).ll), .sl ((a.getD 7 d0).ll), .sl ((a.getD 8 d0).ll), .b ((a.getD 9 d0).bb), .sl ((a.getD 10 d0).ll)]
 else
 (r_impl_descOk [.s ((a.getD 2 d0).ss)]).bindR fun r2 =>
 if (!((r2.getD 0 d0).bb)) = true then
 .norm [.b true, .i ((a.getD 0 d0).ii), .b ((a.getD 1 d0).bb), .s ((a.getD 2 d0).ss), .s ((a.getD 3 d0).ss), .sl ((a.getD 4 d0).ll), .sl ((a.getD 5 d0).ll), .sl ((a.getD 6 d0).ll), .sl ((a.getD 7 d0).ll), .sl ((a.getD 8 d0).ll), .b ((a.getD 9 d0).bb), .sl ((a.getD 10 d0).ll)]
 else
 if (a.getD 1 d0).bb = true then
 if (!((a.getD 2 d0).ss == ([] : List UInt8))) = true then
 .norm [.b true, .i ((a.getD 0 d0).ii), .b ((a.getD 1 d0).bb), .s ((a.getD 2 d0).ss), .s ((a.getD 3 d0).ss), .sl ((a.getD 4 d0).ll), .sl ((a.getD 5 d0).ll), .sl ((a.getD 6 d0).ll), .sl ((a.getD 7 d0).ll), .sl ((a.getD 8 d0).ll), .b ((a.getD 9 d0).bb), .sl ((a.getD 10 d0).ll)]
 else
 (r_impl_something [.i ((a.getD 0 d0).ii), .b ((a.getD 1 d0).bb), .s ((a.getD 2 d0).ss), .s ((a.getD 3 d0).ss), .sl ((a.getD 4 d0).ll), .sl ((a.getD 5 d0).ll), .sl ((a.getD 6 d0).ll), .sl ((a.getD 7 d0).ll), .sl ((a.getD 8 d0).ll), .b ((a.getD 9 d0).bb), .sl ((a.getD 10 d0).ll)]).bindR fun r3 =>
 if (!((r3.getD 0 d0).bb)) = true then
 .norm [.b true, .i ((a.getD 0 d0).ii), .b ((a.getD 1 d0).bb), .s ((a.getD 2 d0).ss), .s ((a.getD 3 d0).ss), .sl ((a.getD 4 d0).ll), .sl ((a.getD 5 d0).ll), .sl ((a.getD 6 d0).ll), .sl ((a.getD 7 d0).ll), .sl ((a.getD 8 d0).ll), .b ((a.getD 9 d0).bb), .sl ((a.getD 10 d0).ll)]
 else
 (r_impl_partsOk [.i ((a.getD 0 d0).ii), .b ((a.getD 1 d0).bb), .s ((a.getD 2 d0).ss), .s ((a.getD 3 d0).ss), .sl ((a.getD 4 d0).ll), .sl ((a.getD 5 d0).ll), .sl ((a.getD 6 d0).ll), .sl ((a.getD 7 d0).ll), .sl ((a.getD 8 d0).ll), .b ((a.getD 9 d0).bb), .sl ((a.getD 10 d0).ll)]).bindR fun r4 =>
 if (!((r4.getD 0 d0).bb)) = true then
 .norm [.b true, .i ((a.getD 0 d0).ii), .b ((a.getD 1 d0).bb), .s ((a.getD 2 d0).ss), .s ((a.getD 3 d0).ss), .sl ((a.getD 4 d0).ll), .sl ((a.getD 5 d0).ll), .sl ((a.getD 6 d0).ll), .sl ((a.getD 7 d0).ll), .sl ((a.getD 8 d0).ll), .b ((a.getD 9 d0).bb), .sl ((a.getD 10 d0).ll)]
 else
 (r_impl_belongs [.i ((a.getD 0 d0).ii), .b ((a.getD 1 d0).bb), .s ((a.getD 2 d0).ss), .s ((a.getD 3 d0).ss), .sl ((a.getD 4 d0).ll), .sl ((a.getD 5 d0).ll), .sl ((a.getD 6 d0).ll), .sl ((a.getD 7 d0).ll), .sl ((a.getD 8 d0).ll), .b ((a.getD 9 d0).bb), .sl ((a.getD 10 d0).ll)]).bindR fun r5 =>
 .norm [.b (!((r5.getD 0 d0).bb)), .i ((a.getD 0 d0).ii), .b ((a.getD 1 d0).bb), .s ((a.getD 2 d0).ss), .s ((a.getD 3 d0).ss), .sl ((a.getD 4 d0).ll), .sl ((a.getD 5 d0).ll), .sl ((a.getD 6 d0).ll), .sl ((a.getD 7 d0).ll), .sl ((a.getD 8 d0).ll), .b ((a.getD 9 d0).bb), .sl ((a.getD 10 d0).ll)]
 else
 (r_impl_partsOk [.i ((a.getD 0 d0).ii), .b ((a.getD 1 d0).bb), .s ((a.getD 2 d0).ss), .s ((a.getD 3 d0).ss), .sl ((a.getD 4 d0).ll), .sl ((a.getD 5 d0).ll), .sl ((a.getD 6 d0).ll), .sl ((a.getD 7 d0).ll), .sl ((a.getD 8 d0).ll), .b ((a.getD 9 d0).bb), .sl ((a.getD 10 d0).ll)]).bindR fun r6 =>
 if (!((r6.getD 0 d0).bb)) = true then
 .norm [.b true, .i ((a.getD 0 d0).ii), .b ((a.getD 1 d0).bb), .s ((a.getD 2 d0).ss), .s ((a.getD 3 d0).ss), .sl ((a.getD 4 d0).ll), .sl ((a.getD 5 d0).ll), .sl ((a.getD 6 d0).ll), .sl ((a.getD 7 d0).ll), .sl ((a.getD 8 d0).ll), .b ((a.getD 9 d0).bb), .sl ((a.getD 10 d0).ll)]
 else
 (r_impl_belongs [.i ((a.getD 0 d0).ii), .b ((a.getD 1 d0).bb), .s ((a.getD 2 d0).ss), .s ((a.getD 3 d0).ss), .sl ((a.getD 4 d0).ll), .sl ((a.getD 5 d0).ll), .sl ((a.getD 6 d0).ll), .sl ((a.getD 7 d0).ll), .sl ((a.getD 8 d0).ll), .b ((a.getD 9 d0).bb), .sl ((a.getD 10 d0).ll)]).bindR fun r7 =>
 .norm [.b (!((r7.getD 0 d0).bb)), .i ((a.getD 0 d0).ii), .b ((a.getD 1 d0).bb), .s ((a.getD 2 d0).ss), .s ((a.getD 3 d0).ss), .sl ((a.getD 4 d0).ll), .sl ((a.getD 5 d0).ll), .sl ((a.getD 6 d0).ll), .sl ((a.getD 7 d0).ll), .sl ((a.getD 8 d0).ll), .b ((a.getD 9 d0).bb), .sl ((a.getD 10 d0).ll)]) fun v8 =>
 if (v8.getD 0 d0).bb = true then
 .ret [.b false]
 else
 Out.andThenB (if ((v8.getD 1 d0).ii == (7 : Int)) = true then
 Out.andThen ((r_impl_NameOk [.s ((v8.getD 4 d0).ss)]).bindR fun r9 =>
 if (r9.getD 0 d0).bb = true then
 if (!((v8.getD 2 d0).bb)) = true then
 if (decide ((((v8.getD 5 d0).ll).length : Int) > (0 : Int))) = true then
 (r_slices_ContainsFunc_string__impl_DefOk_1 [.sl ((v8.getD 5 d0).ll)]).bindR fun r10 =>
 .norm [.b (!((r10.getD 0 d0).bb))]
 else
 .norm [.b false]
 else
 .norm [.b false]
 else
 .norm [.b false]) fun v11 =>
 .ret [.b ((v11.getD 0 d0).bb)]
 else
 if ((v8.getD 1 d0).ii == (8 : Int)) = true then
 Out.andThen (if ((v8.getD 4 d0).ss == ([] : List UInt8)) = true then
 if (v8.getD 2 d0).bb = true then
 .norm [.b true]
 else
 .norm [.b (decide ((((v8.getD 9 d0).ll).length : Int) > (0 : Int)))]
 else
 .norm [.b false]) fun v12 =>
 .ret [.b ((v12.getD 0 d0).bb)]
 else
 .norm [.i ((v8.getD 1 d0).ii), .b ((v8.getD 2 d0).bb), .s ((v8.getD 3 d0).ss), .s ((v8.getD 4 d0).ss), .sl ((v8.getD 5 d0).ll), .sl ((v8.getD 6 d0).ll), .sl ((v8.getD 7 d0).ll), .sl ((v8.getD 8 d0).ll), .sl ((v8.getD 9 d0).ll), .b ((v8.getD 10 d0).bb), .sl ((v8.getD 11 d0).ll)]) 0 fun v13 =>
 (r_impl_NameOk [.s ((v13.getD 3 d0).ss)]).bindR fun r14 =>
 .ret [.b ((r14.getD 0 d0).bb)]
theorem eq_impl_DefOk a : r_impl_DefOk a = E_impl_DefOk a := (Run_eq cfg 8 _ a).trans (by kernel_rfl)
noncomputable def E_laws_eqDef (a : List DC) : Out :=
 if ((a.getD 0 d0).ii != (a.getD 11 d0).ii) = true then
 .ret [.b false]
 else
 if (!((a.getD 1 d0).bb == (a.getD 12 d0).bb)) = true then
 .ret [.b false]
 else
 if (!((a.getD 2 d0).ss == (a.getD 13 d0).ss)) = true then
 .ret [.b false]
 else
 if (!((a.getD 3 d0).ss == (a.getD 14 d0).ss)) = true then
 .ret [.b false]
 else
 (r_laws_eqStringS [.sl ((a.getD 4 d0).ll), .sl ((a.getD 15 d0).ll)]).bindR fun r1 =>
 if (!((r1.getD 0 d0).bb)) = true then
 .ret [.b false]
 else
 (r_laws_eqFieldDefS [.sl ((a.getD 5 d0).ll), .sl ((a.getD 16 d0).ll)]).bindR fun r2 =>
 if (!((r2.getD 0 d0).bb)) = true then
 .ret [.b false]
 else
 (r_laws_eqInDefS [.sl ((a.getD 6 d0).ll), .sl ((a.getD 17 d0).ll)]).bindR fun r3 =>
 if (!((r3.getD 0 d0).bb)) = true then
 .ret [.b false]
 else
 (r_laws_eqEnumDefS [.sl ((a.getD 7 d0).ll), .sl ((a.getD 18 d0).ll)]).bindR fun r4 =>
 if (!((r4.getD 0 d0).bb)) = true then
 .ret [.b false]
 else
 (r_laws_eqRootS [.sl ((a.getD 8 d0).ll), .sl ((a.getD 19 d0).ll)]).bindR fun r5 =>
 if (!((r5.getD 0 d0).bb)) = true then
 .ret [.b false]
 else
 if (!((a.getD 9 d0).bb == (a.getD 20 d0).bb)) = true then
 .ret [.b false]
 else
 (r_laws_eqDirS [.sl ((a.getD 10 d0).ll), .sl ((a.getD 21 d0).ll)]).bindR fun r6 =>
 if (!((r6.getD 0 d0).bb)) = true then
 .ret [.b false]
 else
 .ret [.b true]
theorem eq_laws_eqDef a : r_laws_eqDef a = E_laws_eqDef a := (Run_eq cfg 9 _ a).trans (by kernel_rfl)
noncomputable def E_laws_szDoc (a : List DC) : Out :=
 (r_laws_szItemS [.sl ((a.getD 0 d0).ll), .i ((a.getD 1 d0).ii)]).bindR fun r1 =>
 if (decide ((r1.getD 0 d0).ii < (0 : Int))) = true then
 .ret [.i (-1 : Int)]
 else
 .ret [.i ((r1.getD 0 d0).ii)]
theorem eq_laws_szDoc a : r_laws_szDoc a = E_laws_szDoc a := (Run_eq cfg 10 _ a).trans (by kernel_rfl)
noncomputable def E_laws_toDoc (a : List DC) : Out :=
 (r_laws_toItemS [.sl ((a.getD 0 d0).ll)]).bindR fun r1 =>
 .ret [.sl ((r1.getD 0 d0).ll)]
theorem eq_laws_toDoc a : r_laws_toDoc a = E_laws_toDoc a := (Run_eq cfg 12 _ a).trans (by kernel_rfl)
noncomputable def E_spec_DocOkL1 : List DC → Out := fun v2 =>
 if (decide ((v2.getD 0 d0).ii < (((v2.getD 1 d0).ll).length : Int))) = true then
 Out.andThenB (if 94 = 94 ∧ 0 ≤ (v2.getD 0 d0).ii ∧ (v2.getD 0 d0).ii < (((v2.getD 1 d0).ll).length : Int) then
 Out.andThenB (Out.andThen (if (((((v2.getD 1 d0).ll).getD ((v2.getD 0 d0).ii).toNat []).getD 0 d0).ii == (1 : Int)) = true then
 Out.andThen ((r_spec_OpOk [.i (((((v2.getD 1 d0).ll).getD ((v2.getD 0 d0).ii).toNat []).getD 1 d0).ii), .s (((((v2.getD 1 d0).ll).getD ((v2.getD 0 d0).ii).toNat []).getD 2 d0).ss), .sl (((((v2.getD 1 d0).ll).getD ((v2.getD 0 d0).ii).toNat []).getD 3 d0).ll), .sl (((((v2.getD 1 d0).ll).getD ((v2.getD 0 d0).ii).toNat []).getD 4 d0).ll), .sl (((((v2.getD 1 d0).ll).getD ((v2.getD 0 d0).ii).toNat []).getD 5 d0).ll)]).bindR fun r3 =>
 if (r3.getD 0 d0).bb = true then
 (r_spec_l14NoFrag [.s (((((v2.getD 1 d0).ll).getD ((v2.getD 0 d0).ii).toNat []).getD 6 d0).ss), .s (((((v2.getD 1 d0).ll).getD ((v2.getD 0 d0).ii).toNat []).getD 7 d0).ss), .sl (((((v2.getD 1 d0).ll).getD ((v2.getD 0 d0).ii).toNat []).getD 8 d0).ll), .sl (((((v2.getD 1 d0).ll).getD ((v2.getD 0 d0).ii).toNat []).getD 9 d0).ll)]).bindR fun r4 =>
 if (r4.getD 0 d0).bb = true then
 (r_spec_l14NoDef [.i (((((v2.getD 1 d0).ll).getD ((v2.getD 0 d0).ii).toNat []).getD 10 d0).ii), .b (((((v2.getD 1 d0).ll).getD ((v2.getD 0 d0).ii).toNat []).getD 11 d0).bb), .s (((((v2.getD 1 d0).ll).getD ((v2.getD 0 d0).ii).toNat []).getD 12 d0).ss), .s (((((v2.getD 1 d0).ll).getD ((v2.getD 0 d0).ii).toNat []).getD 13 d0).ss), .sl (((((v2.getD 1 d0).ll).getD ((v2.getD 0 d0).ii).toNat []).getD 14 d0).ll), .sl (((((v2.getD 1 d0).ll).getD ((v2.getD 0 d0).ii).toNat []).getD 15 d0).ll), .sl (((((v2.getD 1 d0).ll).getD ((v2.getD 0 d0).ii).toNat []).getD 16 d0).ll), .sl (((((v2.getD 1 d0).ll).getD ((v2.getD 0 d0).ii).toNat []).getD 17 d0).ll), .sl (((((v2.getD 1 d0).ll).getD ((v2.getD 0 d0).ii).toNat []).getD 18 d0).ll), .b (((((v2.getD 1 d0).ll).getD ((v2.getD 0 d0).ii).toNat []).getD 19 d0).bb), .sl (((((v2.getD 1 d0).ll).getD ((v2.getD 0 d0).ii).toNat []).getD 20 d0).ll)]).bindR fun r5 =>
 .norm [.i ((v2.getD 0 d0).ii), .b ((r5.getD 0 d0).bb), .sl ((v2.getD 1 d0).ll)]
 else
 .norm [.i ((v2.getD 0 d0).ii), .b false, .sl ((v2.getD 1 d0).ll)]
 else
 .norm [.i ((v2.getD 0 d0).ii), .b false, .sl ((v2.getD 1 d0).ll)]) fun v6 =>
 .norm [.i ((v6.getD 0 d0).ii), .b ((v6.getD 1 d0).bb), .sl ((v6.getD 2 d0).ll)]
 else
 Out.andThen (if (((((v2.getD 1 d0).ll).getD ((v2.getD 0 d0).ii).toNat []).getD 0 d0).ii == (2 : Int)) = true then
 Out.andThen ((r_spec_FragOk [.s (((((v2.getD 1 d0).ll).getD ((v2.getD 0 d0).ii).toNat []).getD 6 d0).ss), .s (((((v2.getD 1 d0).ll).getD ((v2.getD 0 d0).ii).toNat []).getD 7 d0).ss), .sl (((((v2.getD 1 d0).ll).getD ((v2.getD 0 d0).ii).toNat []).getD 8 d0).ll), .sl (((((v2.getD 1 d0).ll).getD ((v2.getD 0 d0).ii).toNat []).getD 9 d0).ll)]).bindR fun r7 =>
 if (r7.getD 0 d0).bb = true then
 (r_spec_l14NoOp [.i (((((v2.getD 1 d0).ll).getD ((v2.getD 0 d0).ii).toNat []).getD 1 d0).ii), .s (((((v2.getD 1 d0).ll).getD ((v2.getD 0 d0).ii).toNat []).getD 2 d0).ss), .sl (((((v2.getD 1 d0).ll).getD ((v2.getD 0 d0).ii).toNat []).getD 3 d0).ll), .sl (((((v2.getD 1 d0).ll).getD ((v2.getD 0 d0).ii).toNat []).getD 4 d0).ll), .sl (((((v2.getD 1 d0).ll).getD ((v2.getD 0 d0).ii).toNat []).getD 5 d0).ll)]).bindR fun r8 =>
 if (r8.getD 0 d0).bb = true then
 (r_spec_l14NoDef [.i (((((v2.getD 1 d0).ll).getD ((v2.getD 0 d0).ii).toNat []).getD 10 d0).ii), .b (((((v2.getD 1 d0).ll).getD ((v2.getD 0 d0).ii).toNat []).getD 11 d0).bb), .s (((((v2.getD 1 d0).ll).getD ((v2.getD 0 d0).ii).toNat []).getD 12 d0).ss), .s (((((v2.getD 1 d0).ll).getD ((v2.getD 0 d0).ii).toNat []).getD 13 d0).ss), .sl (((((v2.getD 1 d0).ll).getD ((v2.getD 0 d0).ii).toNat []).getD 14 d0).ll), .sl (((((v2.getD 1 d0).ll).getD ((v2.getD 0 d0).ii).toNat []).getD 15 d0).ll), .sl (((((v2.getD 1 d0).ll).getD ((v2.getD 0 d0).ii).toNat []).getD 16 d0).ll), .sl (((((v2.getD 1 d0).ll).getD ((v2.getD 0 d0).ii).toNat []).getD 17 d0).ll), .sl (((((v2.getD 1 d0).ll).getD ((v2.getD 0 d0).ii).toNat []).getD 18 d0).ll), .b (((((v2.getD 1 d0).ll).getD ((v2.getD 0 d0).ii).toNat []).getD 19 d0).bb), .sl (((((v2.getD 1 d0).ll).getD ((v2.getD 0 d0).ii).toNat []).getD 20 d0).ll)]).bindR fun r9 =>
 .norm [.i ((v2.getD 0 d0).ii), .b ((r9.getD 0 d0).bb), .sl ((v2.getD 1 d0).ll)]
 else
 .norm [.i ((v2.getD 0 d0).ii), .b false, .sl ((v2.getD 1 d0).ll)]
 else
 .norm [.i ((v2.getD 0 d0).ii), .b false, .sl ((v2.getD 1 d0).ll)]) fun v10 =>
 .norm [.i ((v10.getD 0 d0).ii), .b ((v10.getD 1 d0).bb), .sl ((v10.getD 2 d0).ll)]
 else
 Out.andThen (if (((((v2.getD 1 d0).ll).getD ((v2.getD 0 d0).ii).toNat []).getD 0 d0).ii == (3 : Int)) = true then
 Out.andThen ((r_spec_DefOk [.i (((((v2.getD 1 d0).ll).getD ((v2.getD 0 d0).ii).toNat []).getD 10 d0).ii), .b (((((v2.getD 1 d0).ll).getD ((v2.getD 0 d0).ii).toNat []).getD 11 d0).bb), .s (((((v2.getD 1 d0).ll).getD ((v2.getD 0 d0).ii).toNat []).getD 12 d0).ss), .s (((((v2.getD 1 d0).ll).getD ((v2.getD 0 d0).ii).toNat []).getD 13 d0).ss), .sl (((((v2.getD 1 d0).ll).getD ((v2.getD 0 d0).ii).toNat []).getD 14 d0).ll), .sl (((((v2.getD 1 d0).ll).getD ((v2.getD 0 d0).ii).toNat []).getD 15 d0).ll), .sl (((((v2.getD 1 d0).ll).getD ((v2.getD 0 d0).ii).toNat []).getD 16 d0).ll), .sl (((((v2.getD 1 d0).ll).getD ((v2.getD 0 d0).ii).toNat []).getD 17 d0).ll), .sl (((((v2.getD 1 d0).ll).getD ((v2.getD 0 d0).ii).toNat []).getD 18 d0).ll), .b (((((v2.getD 1 d0).ll).getD ((v2.getD 0 d0).ii).toNat []).getD 19 d0).bb), .sl (((((v2.getD 1 d0).ll).getD ((v2.getD 0 d0).ii).toNat []).getD 20 d0).ll)]).bindR fun r11 =>
 if (r11.getD 0 d0).bb = true then
 (r_spec_l14NoOp [.i (((((v2.getD 1 d0).ll).getD ((v2.getD 0 d0).ii).toNat []).getD 1 d0).ii), .s (((((v2.getD 1 d0).ll).getD ((v2.getD 0 d0).ii).toNat []).getD 2 d0).ss), .sl (((((v2.getD 1 d0).ll).getD ((v2.getD 0 d0).ii).toNat []).getD 3 d0).ll), .sl (((((v2.getD 1 d0).ll).getD ((v2.getD 0 d0).ii).toNat []).getD 4 d0).ll), .sl (((((v2.getD 1 d0).ll).getD ((v2.getD 0 d0).ii).toNat []).getD 5 d0).ll)]).bindR fun r12 =>
 if (r12.getD 0 d0).bb = true then
 (r_spec_l14NoFrag [.s (((((v2.getD 1 d0).ll).getD ((v2.getD 0 d0).ii).toNat []).getD 6 d0).ss), .s (((((v2.getD 1 d0).ll).getD ((v2.getD 0 d0).ii).toNat []).getD 7 d0).ss), .sl (((((v2.getD 1 d0).ll).getD ((v2.getD 0 d0).ii).toNat []).getD 8 d0).ll), .sl (((((v2.getD 1 d0).ll).getD ((v2.getD 0 d0).ii).toNat []).getD 9 d0).ll)]).bindR fun r13 =>
 .norm [.i ((v2.getD 0 d0).ii), .b ((r13.getD 0 d0).bb), .sl ((v2.getD 1 d0).ll)]
 else
 .norm [.i ((v2.getD 0 d0).ii), .b false, .sl ((v2.getD 1 d0).ll)]
 else
 .norm [.i ((v2.getD 0 d0).ii), .b false, .sl ((v2.getD 1 d0).ll)]) fun v14 =>
 .norm [.i ((v14.getD 0 d0).ii), .b ((v14.getD 1 d0).bb), .sl ((v14.getD 2 d0).ll)]
 else
 .norm [.i ((v2.getD 0 d0).ii), .b false, .sl ((v2.getD 1 d0).ll)]) fun v15 =>
 .norm [.i ((v15.getD 0 d0).ii), .b ((v15.getD 1 d0).bb), .sl ((v15.getD 2 d0).ll)]) fun v16 =>
 .norm [.i ((v16.getD 0 d0).ii), .b ((v16.getD 1 d0).bb), .sl ((v16.getD 2 d0).ll)]) fun v17 =>
 .norm [.i ((v17.getD 0 d0).ii), .b ((v17.getD 1 d0).bb), .sl ((v17.getD 2 d0).ll)]) 2 fun v18 =>
 if (!((v18.getD 1 d0).bb)) = true then
 .ret [.b false]
 else
 .norm [.i ((v18.getD 0 d0).ii), .sl ((v18.getD 2 d0).ll)]
 else
 .fail) 1 fun v19 =>
 .norm [.i (IntKind.i64.wrap ((v19.getD 0 d0).ii + (1 : Int))), .sl ((v19.getD 1 d0).ll)]
 else
 .ex 0 []
noncomputable def E_spec_DocOk (a : List DC) : Out :=
 Out.andThen (if ((((a.getD 0 d0).ll).length : Int) == (0 : Int)) = true then
 .norm [.b true, .sl ((a.getD 0 d0).ll)]
 else
 .norm [.b (decide ((((a.getD 0 d0).ll).length : Int) > (60 : Int))), .sl ((a.getD 0 d0).ll)]) fun v1 =>
 if (v1.getD 0 d0).bb = true then
 .ret [.b false]
 else
 Out.andThenB (Loop E_spec_DocOkL1 [.i (0 : Int), .sl ((v1.getD 1 d0).ll)]) 0 fun v20 =>
 .ret [.b true]
theorem eq_spec_DocOk a : r_spec_DocOk a = E_spec_DocOk a := (Run_eq cfg 11 _ a).trans (by kernel_rfl)
noncomputable def E_impl_DocOk (a : List DC) : Out :=
 Out.andThen ((r_impl_in [.i (((a.getD 0 d0).ll).length : Int), .i (1 : Int), .i (60 : Int)]).bindR fun r1 =>
 if (r1.getD 0 d0).bb = true then
 (r_slices_ContainsFunc_impl_Item__impl_DocOk_1 [.sl ((a.getD 0 d0).ll)]).bindR fun r2 =>
 .norm [.b (!((r2.getD 0 d0).bb))]
 else
 .norm [.b false]) fun v3 =>
 .ret [.b ((v3.getD 0 d0).bb)]
theorem eq_impl_DocOk a : r_impl_DocOk a = E_impl_DocOk a := (Run_eq cfg 13 _ a).trans (by kernel_rfl)
noncomputable def E_laws_eqDoc (a : List DC) : Out :=
 (r_laws_eqItemS [.sl ((a.getD 0 d0).ll), .sl ((a.getD 1 d0).ll)]).bindR fun r1 =>
 if (!((r1.getD 0 d0).bb)) = true then
 .ret [.b false]
 else
 .ret [.b true]
theorem eq_laws_eqDoc a : r_laws_eqDoc a = E_laws_eqDoc a := (Run_eq cfg 14 _ a).trans (by kernel_rfl)
noncomputable def E_laws_szStringSL1 : List DC → Out := fun v1 =>
 if (decide ((v1.getD 2 d0).ii < (((v1.getD 0 d0).ll).length : Int))) = true then
 Out.andThenB (if 9 = 9 ∧ 0 ≤ (v1.getD 2 d0).ii ∧ (v1.getD 2 d0).ii < (((v1.getD 0 d0).ll).length : Int) then
 if (decide ((IntKind.i64.wrap ((v1.getD 1 d0).ii - ((((((v1.getD 0 d0).ll).getD ((v1.getD 2 d0).ii).toNat []).getD 0 d0).ss).length : Int))) < (0 : Int))) = true then
 .ret [.i (-1 : Int)]
 else
 .norm [.sl ((v1.getD 0 d0).ll), .i (IntKind.i64.wrap ((v1.getD 1 d0).ii - ((((((v1.getD 0 d0).ll).getD ((v1.getD 2 d0).ii).toNat []).getD 0 d0).ss).length : Int))), .i ((v1.getD 2 d0).ii)]
 else
 .fail) 1 fun v2 =>
 .norm [.sl ((v2.getD 0 d0).ll), .i ((v2.getD 1 d0).ii), .i (IntKind.i64.wrap ((v2.getD 2 d0).ii + (1 : Int)))]
 else
 .ex 0 [.i ((v1.getD 1 d0).ii)]
noncomputable def E_laws_szStringS (a : List DC) : Out :=
 if (decide ((IntKind.i64.wrap ((a.getD 1 d0).ii - (((a.getD 0 d0).ll).length : Int))) < (0 : Int))) = true then
 .ret [.i (-1 : Int)]
 else
 Out.andThenB (Loop E_laws_szStringSL1 [.sl ((a.getD 0 d0).ll), .i (IntKind.i64.wrap ((a.getD 1 d0).ii - (((a.getD 0 d0).ll).length : Int))), .i (0 : Int)]) 0 fun v3 =>
 .ret [.i ((v3.getD 0 d0).ii)]
theorem eq_laws_szStringS a : r_laws_szStringS a = E_laws_szStringS a := (Run_eq cfg 15 _ a).trans (by kernel_rfl)
noncomputable def E_laws_szFieldDefSL1 : List DC → Out := fun v1 =>
 if (decide ((v1.getD 2 d0).ii < (((v1.getD 0 d0).ll).length : Int))) = true then
 Out.andThenB (if 104 = 104 ∧ 0 ≤ (v1.getD 2 d0).ii ∧ (v1.getD 2 d0).ii < (((v1.getD 0 d0).ll).length : Int) then
 (r_laws_szFieldDef [.s (((((v1.getD 0 d0).ll).getD ((v1.getD 2 d0).ii).toNat []).getD 0 d0).ss), .s (((((v1.getD 0 d0).ll).getD ((v1.getD 2 d0).ii).toNat []).getD 1 d0).ss), .sl (((((v1.getD 0 d0).ll).getD ((v1.getD 2 d0).ii).toNat []).getD 2 d0).ll), .s (((((v1.getD 0 d0).ll).getD ((v1.getD 2 d0).ii).toNat []).getD 3 d0).ss), .s (((((v1.getD 0 d0).ll).getD ((v1.getD 2 d0).ii).toNat []).getD 4 d0).ss), .sl (((((v1.getD 0 d0).ll).getD ((v1.getD 2 d0).ii).toNat []).getD 5 d0).ll), .i ((v1.getD 1 d0).ii)]).bindR fun r2 =>
 if (decide ((r2.getD 0 d0).ii < (0 : Int))) = true then
 .ret [.i (-1 : Int)]
 else
 .norm [.sl ((v1.getD 0 d0).ll), .i ((r2.getD 0 d0).ii), .i ((v1.getD 2 d0).ii)]
 else
 .fail) 1 fun v3 =>
 .norm [.sl ((v3.getD 0 d0).ll), .i ((v3.getD 1 d0).ii), .i (IntKind.i64.wrap ((v3.getD 2 d0).ii + (1 : Int)))]
 else
 .ex 0 [.i ((v1.getD 1 d0).ii)]
noncomputable def E_laws_szFieldDefS (a : List DC) : Out :=
 if (decide ((IntKind.i64.wrap ((a.getD 1 d0).ii - (((a.getD 0 d0).ll).length : Int))) < (0 : Int))) = true then
 .ret [.i (-1 : Int)]
 else
 Out.andThenB (Loop E_laws_szFieldDefSL1 [.sl ((a.getD 0 d0).ll), .i (IntKind.i64.wrap ((a.getD 1 d0).ii - (((a.getD 0 d0).ll).length : Int))), .i (0 : Int)]) 0 fun v4 =>
 .ret [.i ((v4.getD 0 d0).ii)]
theorem eq_laws_szFieldDefS a : r_laws_szFieldDefS a = E_laws_szFieldDefS a := (Run_eq cfg 16 _ a).trans (by kernel_rfl)
noncomputable def E_laws_szInDefSL1 : List DC → Out := fun v1 =>
 if (decide ((v1.getD 2 d0).ii < (((v1.getD 0 d0).ll).length : Int))) = true then
 Out.andThenB (if 110 = 110 ∧ 0 ≤ (v1.getD 2 d0).ii ∧ (v1.getD 2 d0).ii < (((v1.getD 0 d0).ll).length : Int) then
 (r_laws_szInDef [.s (((((v1.getD 0 d0).ll).getD ((v1.getD 2 d0).ii).toNat []).getD 0 d0).ss), .s (((((v1.getD 0 d0).ll).getD ((v1.getD 2 d0).ii).toNat []).getD 1 d0).ss), .s (((((v1.getD 0 d0).ll).getD ((v1.getD 2 d0).ii).toNat []).getD 2 d0).ss), .s (((((v1.getD 0 d0).ll).getD ((v1.getD 2 d0).ii).toNat []).getD 3 d0).ss), .b (((((v1.getD 0 d0).ll).getD ((v1.getD 2 d0).ii).toNat []).getD 4 d0).bb), .i (((((v1.getD 0 d0).ll).getD ((v1.getD 2 d0).ii).toNat []).getD 5 d0).ii), .s (((((v1.getD 0 d0).ll).getD ((v1.getD 2 d0).ii).toNat []).getD 6 d0).ss), .sl (((((v1.getD 0 d0).ll).getD ((v1.getD 2 d0).ii).toNat []).getD 7 d0).ll), .sl (((((v1.getD 0 d0).ll).getD ((v1.getD 2 d0).ii).toNat []).getD 8 d0).ll), .sl (((((v1.getD 0 d0).ll).getD ((v1.getD 2 d0).ii).toNat []).getD 9 d0).ll), .i ((v1.getD 1 d0).ii)]).bindR fun r2 =>
 if (decide ((r2.getD 0 d0).ii < (0 : Int))) = true then
 .ret [.i (-1 : Int)]
 else
 .norm [.sl ((v1.getD 0 d0).ll), .i ((r2.getD 0 d0).ii), .i ((v1.getD 2 d0).ii)]
 else
 .fail) 1 fun v3 =>
 .norm [.sl ((v3.getD 0 d0).ll), .i ((v3.getD 1 d0).ii), .i (IntKind.i64.wrap ((v3.getD 2 d0).ii + (1 : Int)))]
 else
 .ex 0 [.i ((v1.getD 1 d0).ii)]
noncomputable def E_laws_szInDefS (a : List DC) : Out :=
 if (decide ((IntKind.i64.wrap ((a.getD 1 d0).ii - (((a.getD 0 d0).ll).length : Int))) < (0 : Int))) = true then
 .ret [.i (-1 : Int)]
 else
 Out.andThenB (Loop E_laws_szInDefSL1 [.sl ((a.getD 0 d0).ll), .i (IntKind.i64.wrap ((a.getD 1 d0).ii - (((a.getD 0 d0).ll).length : Int))), .i (0 : Int)]) 0 fun v4 =>
 .ret [.i ((v4.getD 0 d0).ii)]
theorem eq_laws_szInDefS a : r_laws_szInDefS a = E_laws_szInDefS a := (Run_eq cfg 17 _ a).trans (by kernel_rfl)
noncomputable def E_laws_szEnumDefSL1 : List DC → Out := fun v1 =>
 if (decide ((v1.getD 2 d0).ii < (((v1.getD 0 d0).ll).length : Int))) = true then
 Out.andThenB (if 113 = 113 ∧ 0 ≤ (v1.getD 2 d0).ii ∧ (v1.getD 2 d0).ii < (((v1.getD 0 d0).ll).length : Int) then
 (r_laws_szEnumDef [.s (((((v1.getD 0 d0).ll).getD ((v1.getD 2 d0).ii).toNat []).getD 0 d0).ss), .s (((((v1.getD 0 d0).ll).getD ((v1.getD 2 d0).ii).toNat []).getD 1 d0).ss), .sl (((((v1.getD 0 d0).ll).getD ((v1.getD 2 d0).ii).toNat []).getD 2 d0).ll), .i ((v1.getD 1 d0).ii)]).bindR fun r2 =>
 if (decide ((r2.getD 0 d0).ii < (0 : Int))) = true then
 .ret [.i (-1 : Int)]
 else
 .norm [.sl ((v1.getD 0 d0).ll), .i ((r2.getD 0 d0).ii), .i ((v1.getD 2 d0).ii)]
 else
 .fail) 1 fun v3 =>
 .norm [.sl ((v3.getD 0 d0).ll), .i ((v3.getD 1 d0).ii), .i (IntKind.i64.wrap ((v3.getD 2 d0).ii + (1 : Int)))]
 else
 .ex 0 [.i ((v1.getD 1 d0).ii)]
noncomputable def E_laws_szEnumDefS (a : List DC) : Out :=
 if (decide ((IntKind.i64.wrap ((a.getD 1 d0).ii - (((a.getD 0 d0).ll).length : Int))) < (0 : Int))) = true then
 .ret [.i (-1 : Int)]
 else
 Out.andThenB (Loop E_laws_szEnumDefSL1 [.sl ((a.getD 0 d0).ll), .i (IntKind.i64.wrap ((a.getD 1 d0).ii - (((a.getD 0 d0).ll).length : Int))), .i (0 : Int)]) 0 fun v4 =>
 .ret [.i ((v4.getD 0 d0).ii)]
theorem eq_laws_szEnumDefS a : r_laws_szEnumDefS a = E_laws_szEnumDefS a := (Run_eq cfg 18 _ a).trans (by kernel_rfl)
noncomputable def E_laws_szRootSL1 : List DC → Out := fun v1 =>
 if (decide ((v1.getD 2 d0).ii < (((v1.getD 0 d0).ll).length : Int))) = true then
 Out.andThenB (if 115 = 115 ∧ 0 ≤ (v1.getD 2 d0).ii ∧ (v1.getD 2 d0).ii < (((v1.getD 0 d0).ll).length : Int) then
 (r_laws_szRoot [.i (((((v1.getD 0 d0).ll).getD ((v1.getD 2 d0).ii).toNat []).getD 0 d0).ii), .s (((((v1.getD 0 d0).ll).getD ((v1.getD 2 d0).ii).toNat []).getD 1 d0).ss), .i ((v1.getD 1 d0).ii)]).bindR fun r2 =>
 if (decide ((r2.getD 0 d0).ii < (0 : Int))) = true then
 .ret [.i (-1 : Int)]
 else
 .norm [.sl ((v1.getD 0 d0).ll), .i ((r2.getD 0 d0).ii), .i ((v1.getD 2 d0).ii)]
 else
 .fail) 1 fun v3 =>
 .norm [.sl ((v3.getD 0 d0).ll), .i ((v3.getD 1 d0).ii), .i (IntKind.i64.wrap ((v3.getD 2 d0).ii + (1 : Int)))]
 else
 .ex 0 [.i ((v1.getD 1 d0).ii)]
noncomputable def E_laws_szRootS (a : List DC) : Out :=
 if (decide ((IntKind.i64.wrap ((a.getD 1 d0).ii - (((a.getD 0 d0).ll).length : Int))) < (0 : Int))) = true then
 .ret [.i (-1 : Int)]
 else
 Out.andThenB (Loop E_laws_szRootSL1 [.sl ((a.getD 0 d0).ll), .i (IntKind.i64.wrap ((a.getD 1 d0).ii - (((a.getD 0 d0).ll).length : Int))), .i (0 : Int)]) 0 fun v4 =>
 .ret [.i ((v4.getD 0 d0).ii)]
theorem eq_laws_szRootS a : r_laws_szRootS a = E_laws_szRootS a := (Run_eq cfg 19 _ a).trans (by kernel_rfl)
noncomputable def E_laws_szDirSL1 : List DC → Out := fun v1 =>
 if (decide ((v1.getD 2 d0).ii < (((v1.getD 0 d0).ll).length : Int))) = true then
 Out.andThenB (if 119 = 119 ∧ 0 ≤ (v1.getD 2 d0).ii ∧ (v1.getD 2 d0).ii < (((v1.getD 0 d0).ll).length : Int) then
 (r_laws_szDir [.s (((((v1.getD 0 d0).ll).getD ((v1.getD 2 d0).ii).toNat []).getD 0 d0).ss), .sl (((((v1.getD 0 d0).ll).getD ((v1.getD 2 d0).ii).toNat []).getD 1 d0).ll), .i ((v1.getD 1 d0).ii)]).bindR fun r2 =>
 if (decide ((r2.getD 0 d0).ii < (0 : Int))) = true then
 .ret [.i (-1 : Int)]
 else
 .norm [.sl ((v1.getD 0 d0).ll), .i ((r2.getD 0 d0).ii), .i ((v1.getD 2 d0).ii)]
 else
 .fail) 1 fun v3 =>
 .norm [.sl ((v3.getD 0 d0).ll), .i ((v3.getD 1 d0).ii), .i (IntKind.i64.wrap ((v3.getD 2 d0).ii + (1 : Int)))]
 else
 .ex 0 [.i ((v1.getD 1 d0).ii)]
noncomputable def E_laws_szDirS (a : List DC) : Out :=
 if (decide ((IntKind.i64.wrap ((a.getD 1 d0).ii - (((a.getD 0 d0).ll).length : Int))) < (0 : Int))) = true then
 .ret [.i (-1 : Int)]
 else
 Out.andThenB (Loop E_laws_szDirSL1 [.sl ((a.getD 0 d0).ll), .i (IntKind.i64.wrap ((a.getD 1 d0).ii - (((a.getD 0 d0).ll).length : Int))), .i (0 : Int)]) 0 fun v4 =>
 .ret [.i ((v4.getD 0 d0).ii)]
theorem eq_laws_szDirS a : r_laws_szDirS a = E_laws_szDirS a := (Run_eq cfg 20 _ a).trans (by kernel_rfl)
noncomputable def E_laws_toStringSL1 : List DC → Out := fun v1 =>
 if (decide ((v1.getD 2 d0).ii < (((v1.getD 0 d0).ll).length : Int))) = true then
 Out.andThenB (if 9 = 9 ∧ 0 ≤ (v1.getD 2 d0).ii ∧ (v1.getD 2 d0).ii < (((v1.getD 0 d0).ll).length : Int) then
 if 9 = 9 ∧ 0 ≤ (v1.getD 2 d0).ii ∧ (v1.getD 2 d0).ii < (((v1.getD 1 d0).ll).length : Int) then
 .norm [.sl ((v1.getD 0 d0).ll), .sl (((v1.getD 1 d0).ll).set (((v1.getD 2 d0).ii).toNat) (setRunD (((v1.getD 1 d0).ll).getD (((v1.getD 2 d0).ii).toNat) []) 0 [DC.s (((((v1.getD 0 d0).ll).getD ((v1.getD 2 d0).ii).toNat []).getD 0 d0).ss)])), .i ((v1.getD 2 d0).ii)]
 else
 .fail
 else
 .fail) 1 fun v2 =>
 .norm [.sl ((v2.getD 0 d0).ll), .sl ((v2.getD 1 d0).ll), .i (IntKind.i64.wrap ((v2.getD 2 d0).ii + (1 : Int)))]
 else
 .ex 0 [.sl ((v1.getD 1 d0).ll)]
noncomputable def E_laws_toStringS (a : List DC) : Out :=
 if 0 ≤ (((a.getD 0 d0).ll).length : Int) ∧ (((a.getD 0 d0).ll).length : Int) < (LIM : Int) ∧ (((a.getD 0 d0).ll).length : Int) = (((a.getD 0 d0).ll).length : Int) ∧ 16 ≤ 1024 ∧ 0 < 1 then
 Out.andThenB (Loop E_laws_toStringSL1 [.sl ((a.getD 0 d0).ll), .sl (List.replicate (((a.getD 0 d0).ll).length : Int).toNat [DC.s []]), .i (0 : Int)]) 0 fun v3 =>
 .ret [.sl ((v3.getD 0 d0).ll)]
 else
 .fail
theorem eq_laws_toStringS a : r_laws_toStringS a = E_laws_toStringS a := (Run_eq cfg 31 _ a).trans (by kernel_rfl)
noncomputable def E_laws_toFieldDefSL1 : List DC → Out := fun v1 =>
 if (decide ((v1.getD 2 d0).ii < (((v1.getD 0 d0).ll).length : Int))) = true then
 Out.andThenB (if 104 = 104 ∧ 0 ≤ (v1.getD 2 d0).ii ∧ (v1.getD 2 d0).ii < (((v1.getD 0 d0).ll).length : Int) then
 (r_laws_toFieldDef [.s (((((v1.getD 0 d0).ll).getD ((v1.getD 2 d0).ii).toNat []).getD 0 d0).ss), .s (((((v1.getD 0 d0).ll).getD ((v1.getD 2 d0).ii).toNat []).getD 1 d0).ss), .sl (((((v1.getD 0 d0).ll).getD ((v1.getD 2 d0).ii).toNat []).getD 2 d0).ll), .s (((((v1.getD 0 d0).ll).getD ((v1.getD 2 d0).ii).toNat []).getD 3 d0).ss), .s (((((v1.getD 0 d0).ll).getD ((v1.getD 2 d0).ii).toNat []).getD 4 d0).ss), .sl (((((v1.getD 0 d0).ll).getD ((v1.getD 2 d0).ii).toNat []).getD 5 d0).ll)]).bindR fun r2 =>
 if 67 = 67 ∧ 0 ≤ (v1.getD 2 d0).ii ∧ (v1.getD 2 d0).ii < (((v1.getD 1 d0).ll).length : Int) then
 .norm [.sl ((v1.getD 0 d0).ll), .sl (((v1.getD 1 d0).ll).set (((v1.getD 2 d0).ii).toNat) (setRunD (((v1.getD 1 d0).ll).getD (((v1.getD 2 d0).ii).toNat) []) 0 [DC.s ((r2.getD 0 d0).ss), DC.s ((r2.getD 1 d0).ss), DC.sl ((r2.getD 2 d0).ll), DC.s ((r2.getD 3 d0).ss), DC.s ((r2.getD 4 d0).ss), DC.sl ((r2.getD 5 d0).ll)])), .i ((v1.getD 2 d0).ii)]
 else
 .fail
 else
 .fail) 1 fun v3 =>
 .norm [.sl ((v3.getD 0 d0).ll), .sl ((v3.getD 1 d0).ll), .i (IntKind.i64.wrap ((v3.getD 2 d0).ii + (1 : Int)))]
 else
 .ex 0 [.sl ((v1.getD 1 d0).ll)]
noncomputable def E_laws_toFieldDefS (a : List DC) : Out :=
 if 0 ≤ (((a.getD 0 d0).ll).length : Int) ∧ (((a.getD 0 d0).ll).length : Int) < (LIM : Int) ∧ (((a.getD 0 d0).ll).length : Int) = (((a.getD 0 d0).ll).length : Int) ∧ 112 ≤ 1024 ∧ 0 < 6 then
 Out.andThenB (Loop E_laws_toFieldDefSL1 [.sl ((a.getD 0 d0).ll), .sl (List.replicate (((a.getD 0 d0).ll).length : Int).toNat [DC.s [], DC.s [], DC.sl [], DC.s [], DC.s [], DC.sl []]), .i (0 : Int)]) 0 fun v4 =>
 .ret [.sl ((v4.getD 0 d0).ll)]
 else
 .fail
theorem eq_laws_toFieldDefS a : r_laws_toFieldDefS a = E_laws_toFieldDefS a := (Run_eq cfg 32 _ a).trans (by kernel_rfl)
noncomputable def E_laws_toInDefSL1 : List DC → Out := fun v1 =>
 if (decide ((v1.getD 2 d0).ii < (((v1.getD 0 d0).ll).length : Int))) = true then
 Out.andThenB (if 110 = 110 ∧ 0 ≤ (v1.getD 2 d0).ii ∧ (v1.getD 2 d0).ii < (((v1.getD 0 d0).ll).length : Int) then
 (r_laws_toInDef [.s (((((v1.getD 0 d0).ll).getD ((v1.getD 2 d0).ii).toNat []).getD 0 d0).ss), .s (((((v1.getD 0 d0).ll).getD ((v1.getD 2 d0).ii).toNat []).getD 1 d0).ss), .s (((((v1.getD 0 d0).ll).getD ((v1.getD 2 d0).ii).toNat []).getD 2 d0).ss), .s (((((v1.getD 0 d0).ll).getD ((v1.getD 2 d0).ii).toNat []).getD 3 d0).ss), .b (((((v1.getD 0 d0).ll).getD ((v1.getD 2 d0).ii).toNat []).getD 4 d0).bb), .i (((((v1.getD 0 d0).ll).getD ((v1.getD 2 d0).ii).toNat []).getD 5 d0).ii), .s (((((v1.getD 0 d0).ll).getD ((v1.getD 2 d0).ii).toNat []).getD 6 d0).ss), .sl (((((v1.getD 0 d0).ll).getD ((v1.getD 2 d0).ii).toNat []).getD 7 d0).ll), .sl (((((v1.getD 0 d0).ll).getD ((v1.getD 2 d0).ii).toNat []).getD 8 d0).ll), .sl (((((v1.getD 0 d0).ll).getD ((v1.getD 2 d0).ii).toNat []).getD 9 d0).ll)]).bindR fun r2 =>
 if 127 = 127 ∧ 0 ≤ (v1.getD 2 d0).ii ∧ (v1.getD 2 d0).ii < (((v1.getD 1 d0).ll).length : Int) then
 .norm [.sl ((v1.getD 0 d0).ll), .sl (((v1.getD 1 d0).ll).set (((v1.getD 2 d0).ii).toNat) (setRunD (((v1.getD 1 d0).ll).getD (((v1.getD 2 d0).ii).toNat) []) 0 [DC.s ((r2.getD 0 d0).ss), DC.s ((r2.getD 1 d0).ss), DC.s ((r2.getD 2 d0).ss), DC.s ((r2.getD 3 d0).ss), DC.b ((r2.getD 4 d0).bb), DC.i ((r2.getD 5 d0).ii), DC.s ((r2.getD 6 d0).ss), DC.sl ((r2.getD 7 d0).ll), DC.sl ((r2.getD 8 d0).ll), DC.sl ((r2.getD 9 d0).ll)])), .i ((v1.getD 2 d0).ii)]
 else
 .fail
 else
 .fail) 1 fun v3 =>
 .norm [.sl ((v3.getD 0 d0).ll), .sl ((v3.getD 1 d0).ll), .i (IntKind.i64.wrap ((v3.getD 2 d0).ii + (1 : Int)))]
 else
 .ex 0 [.sl ((v1.getD 1 d0).ll)]
noncomputable def E_laws_toInDefS (a : List DC) : Out :=
 if 0 ≤ (((a.getD 0 d0).ll).length : Int) ∧ (((a.getD 0 d0).ll).length : Int) < (LIM : Int) ∧ (((a.getD 0 d0).ll).length : Int) = (((a.getD 0 d0).ll).length : Int) ∧ 168 ≤ 1024 ∧ 0 < 10 then
 Out.andThenB (Loop E_laws_toInDefSL1 [.sl ((a.getD 0 d0).ll), .sl (List.replicate (((a.getD 0 d0).ll).length : Int).toNat [DC.s [], DC.s [], DC.s [], DC.s [], DC.b false, DC.i 0, DC.s [], DC.sl [], DC.sl [], DC.sl []]), .i (0 : Int)]) 0 fun v4 =>
 .ret [.sl ((v4.getD 0 d0).ll)]
 else
 .fail
theorem eq_laws_toInDefS a : r_laws_toInDefS a = E_laws_toInDefS a := (Run_eq cfg 33 _ a).trans (by kernel_rfl)
noncomputable def E_laws_toEnumDefSL1 : List DC → Out := fun v1 =>
 if (decide ((v1.getD 2 d0).ii < (((v1.getD 0 d0).ll).length : Int))) = true then
 Out.andThenB (if 113 = 113 ∧ 0 ≤ (v1.getD 2 d0).ii ∧ (v1.getD 2 d0).ii < (((v1.getD 0 d0).ll).length : Int) then
 (r_laws_toEnumDef [.s (((((v1.getD 0 d0).ll).getD ((v1.getD 2 d0).ii).toNat []).getD 0 d0).ss), .s (((((v1.getD 0 d0).ll).getD ((v1.getD 2 d0).ii).toNat []).getD 1 d0).ss), .sl (((((v1.getD 0 d0).ll).getD ((v1.getD 2 d0).ii).toNat []).getD 2 d0).ll)]).bindR fun r2 =>
 if 69 = 69 ∧ 0 ≤ (v1.getD 2 d0).ii ∧ (v1.getD 2 d0).ii < (((v1.getD 1 d0).ll).length : Int) then
 .norm [.sl ((v1.getD 0 d0).ll), .sl (((v1.getD 1 d0).ll).set (((v1.getD 2 d0).ii).toNat) (setRunD (((v1.getD 1 d0).ll).getD (((v1.getD 2 d0).ii).toNat) []) 0 [DC.s ((r2.getD 0 d0).ss), DC.s ((r2.getD 1 d0).ss), DC.sl ((r2.getD 2 d0).ll)])), .i ((v1.getD 2 d0).ii)]
 else
 .fail
 else
 .fail) 1 fun v3 =>
 .norm [.sl ((v3.getD 0 d0).ll), .sl ((v3.getD 1 d0).ll), .i (IntKind.i64.wrap ((v3.getD 2 d0).ii + (1 : Int)))]
 else
 .ex 0 [.sl ((v1.getD 1 d0).ll)]
noncomputable def E_laws_toEnumDefS (a : List DC) : Out :=
 if 0 ≤ (((a.getD 0 d0).ll).length : Int) ∧ (((a.getD 0 d0).ll).length : Int) < (LIM : Int) ∧ (((a.getD 0 d0).ll).length : Int) = (((a.getD 0 d0).ll).length : Int) ∧ 56 ≤ 1024 ∧ 0 < 3 then
 Out.andThenB (Loop E_laws_toEnumDefSL1 [.sl ((a.getD 0 d0).ll), .sl (List.replicate (((a.getD 0 d0).ll).length : Int).toNat [DC.s [], DC.s [], DC.sl []]), .i (0 : Int)]) 0 fun v4 =>
 .ret [.sl ((v4.getD 0 d0).ll)]
 else
 .fail
theorem eq_laws_toEnumDefS a : r_laws_toEnumDefS a = E_laws_toEnumDefS a := (Run_eq cfg 34 _ a).trans (by kernel_rfl)
noncomputable def E_laws_toRootSL1 : List DC → Out := fun v1 =>
 if (decide ((v1.getD 2 d0).ii < (((v1.getD 0 d0).ll).length : Int))) = true then
 Out.andThenB (if 115 = 115 ∧ 0 ≤ (v1.getD 2 d0).ii ∧ (v1.getD 2 d0).ii < (((v1.getD 0 d0).ll).length : Int) then
 (r_laws_toRoot [.i (((((v1.getD 0 d0).ll).getD ((v1.getD 2 d0).ii).toNat []).getD 0 d0).ii), .s (((((v1.getD 0 d0).ll).getD ((v1.getD 2 d0).ii).toNat []).getD 1 d0).ss)]).bindR fun r2 =>
 if 72 = 72 ∧ 0 ≤ (v1.getD 2 d0).ii ∧ (v1.getD 2 d0).ii < (((v1.getD 1 d0).ll).length : Int) then
 .norm [.sl ((v1.getD 0 d0).ll), .sl (((v1.getD 1 d0).ll).set (((v1.getD 2 d0).ii).toNat) (setRunD (((v1.getD 1 d0).ll).getD (((v1.getD 2 d0).ii).toNat) []) 0 [DC.i ((r2.getD 0 d0).ii), DC.s ((r2.getD 1 d0).ss)])), .i ((v1.getD 2 d0).ii)]
 else
 .fail
 else
 .fail) 1 fun v3 =>
 .norm [.sl ((v3.getD 0 d0).ll), .sl ((v3.getD 1 d0).ll), .i (IntKind.i64.wrap ((v3.getD 2 d0).ii + (1 : Int)))]
 else
 .ex 0 [.sl ((v1.getD 1 d0).ll)]
noncomputable def E_laws_toRootS (a : List DC) : Out :=
 if 0 ≤ (((a.getD 0 d0).ll).length : Int) ∧ (((a.getD 0 d0).ll).length : Int) < (LIM : Int) ∧ (((a.getD 0 d0).ll).length : Int) = (((a.getD 0 d0).ll).length : Int) ∧ 24 ≤ 1024 ∧ 0 < 2 then
 Out.andThenB (Loop E_laws_toRootSL1 [.sl ((a.getD 0 d0).ll), .sl (List.replicate (((a.getD 0 d0).ll).length : Int).toNat [DC.i 0, DC.s []]), .i (0 : Int)]) 0 fun v4 =>
 .ret [.sl ((v4.getD 0 d0).ll)]
 else
 .fail
theorem eq_laws_toRootS a : r_laws_toRootS a = E_laws_toRootS a := (Run_eq cfg 35 _ a).trans (by kernel_rfl)
noncomputable def E_laws_toDirSL1 : List DC → Out := fun v1 =>
 if (decide ((v1.getD 2 d0).ii < (((v1.getD 0 d0).ll).length : Int))) = true then
 Out.andThenB (if 119 = 119 ∧ 0 ≤ (v1.getD 2 d0).ii ∧ (v1.getD 2 d0).ii < (((v1.getD 0 d0).ll).length : Int) then
 (r_laws_toDir [.s (((((v1.getD 0 d0).ll).getD ((v1.getD 2 d0).ii).toNat []).getD 0 d0).ss), .sl (((((v1.getD 0 d0).ll).getD ((v1.getD 2 d0).ii).toNat []).getD 1 d0).ll)]).bindR fun r2 =>
 if 130 = 130 ∧ 0 ≤ (v1.getD 2 d0).ii ∧ (v1.getD 2 d0).ii < (((v1.getD 1 d0).ll).length : Int) then
 .norm [.sl ((v1.getD 0 d0).ll), .sl (((v1.getD 1 d0).ll).set (((v1.getD 2 d0).ii).toNat) (setRunD (((v1.getD 1 d0).ll).getD (((v1.getD 2 d0).ii).toNat) []) 0 [DC.s ((r2.getD 0 d0).ss), DC.sl ((r2.getD 1 d0).ll)])), .i ((v1.getD 2 d0).ii)]
 else
 .fail
 else
 .fail) 1 fun v3 =>
 .norm [.sl ((v3.getD 0 d0).ll), .sl ((v3.getD 1 d0).ll), .i (IntKind.i64.wrap ((v3.getD 2 d0).ii + (1 : Int)))]
 else
 .ex 0 [.sl ((v1.getD 1 d0).ll)]
noncomputable def E_laws_toDirS (a : List DC) : Out :=
 if 0 ≤ (((a.getD 0 d0).ll).length : Int) ∧ (((a.getD 0 d0).ll).length : Int) < (LIM : Int) ∧ (((a.getD 0 d0).ll).length : Int) = (((a.getD 0 d0).ll).length : Int) ∧ 40 ≤ 1024 ∧ 0 < 2 then
 Out.andThenB (Loop E_laws_toDirSL1 [.sl ((a.getD 0 d0).ll), .sl (List.replicate (((a.getD 0 d0).ll).length : Int).toNat [DC.s [], DC.sl []]), .i (0 : Int)]) 0 fun v4 =>
 .ret [.sl ((v4.getD 0 d0).ll)]
 else
 .fail
theorem eq_laws_toDirS a : r_laws_toDirS a = E_laws_toDirS a := (Run_eq cfg 36 _ a).trans (by kernel_rfl)
end Go.Proofs.QV
